import Derived.Test.YtdhdpbnlhnodjaaLodS
/-  NameUsed. -/
namespace Go.Proofs.Ytdhdpbnlhnodjaa
open Go.RowKit
set_option maxRecDepth 100000 in
set_option maxHeartbeats 8000000 in
theorem NameUsed_calls (ni : Int) (mv cv : Value) (ms : List (Int × Int)) (cs : List Int) (b : Nat) (pl : Nat) (W : World) (hs : Sht W mv cv ms cs) (_hb : b ≤ 65535) (hpl : pl ≤ 255) :
    Calls Try.prog 11 #[.agg #[.int .i64 ni, mv, cv], .int .u16 (b : Int), .int .u8 (pl : Int)] W (Gives (.bool true) W) := by
  have S : Ins W [] := Ins.nil _
  obtain ⟨am, lm, cm, rfl⟩ : ∃ a n c, mv = .slice a n c := by obtain ⟨a, c, e⟩ := hs.m.form; exact ⟨a, _, c, e⟩
  obtain ⟨ac, lc, cc, rfl⟩ : ∃ a n c, cv = .slice a n c := by obtain ⟨a, c, e⟩ := hs.c.form; exact ⟨a, _, c, e⟩
  by_cases hv : vsheet ni ms cs = 0
  rotate_left
  · have HF := Lib.hid (show fineB ni ms cs = false from decide_eq_false hv)
    clear hv
    go_enter Try.func11, Try.ntmps11
    go_wp2_with fail
    obtain ⟨B1, hb⟩ : ∃ b, b = W.heap.size := ⟨_, rfl⟩
    have l1 : Lin (W.alloc (.cells #[.int .i64 ni, .slice am lm cm, .slice ac lc cc] 25)) B1 25 [.int .i64 ni, .slice am lm cm, .slice ac lc cc] := by rw [hb]; exact Lin.new _ _ [.int .i64 ni, .slice am lm cm, .slice ac lc cc]
    replace S := S.later (Later.new _ (.cells #[.int .i64 ni, .slice am lm cm, .slice ac lc cc] 25))
    rw [Later.new_w] at S
    replace hs := hs.later (Later.new _ (.cells #[.int .i64 ni, .slice am lm cm, .slice ac lc cc] 25))
    rw [Later.new_w] at hs
    have hsz : (W.alloc (.cells #[.int .i64 ni, .slice am lm cm, .slice ac lc cc] 25)).heap.size = B1 + 1 := by rw [hb]; simp
    obtain ⟨Y2, hZ⟩ : ∃ Z : Later W, Z.w = W.alloc (.cells #[.int .i64 ni, .slice am lm cm, .slice ac lc cc] 25) := ⟨Later.new _ _, rfl⟩
    rw [← hZ] at S hsz hs l1 ⊢
    clear hZ
    rw [← hb]
    clear hb
    clear hsz
    refine (fine_calls ni _ _ ms cs _ hs).mono ?_
    rintro e w' ⟨rfl, y, rfl⟩
    rw [HF.out]
    replace hs := hs.later y
    replace l1 := l1.later y
    replace S := S.later y
    obtain ⟨Y3, hZ⟩ : ∃ Z : Later W, Z.w = y.w := ⟨Y2.step (y), rfl⟩
    rw [← hZ] at S hs l1 ⊢
    clear hZ
    clear y
    go_wp2_with fail
    refine (Works_calls _).mono ?_
    rintro e w' ⟨rfl, y, rfl⟩
    go_wp2
    go_ret
    exact ⟨rfl, Y3.step (y), rfl⟩
  obtain ⟨n, mn, cn, rfl, hms, hcs, hS⟩ := vsheet_nat hv
  have HF := Lib.hid (show fineB n ms cs = true from decide_eq_true hv)
  have HS := Lib.hid hS
  have HMS := Lib.hid hms
  have HCS := Lib.hid hcs
  have h1 := hS.n1
  have h10 := hS.n10
  have HML := Lib.hid (show lm = ms.length by obtain ⟨a, c, e⟩ := hs.m.form; cases e; rfl)
  have HCL := Lib.hid (show lc = cs.length by obtain ⟨a, c, e⟩ := hs.c.form; cases e; rfl)
  clear hv hms hcs hS
  by_cases hg0 : 20 ≤ lc
  · have d0 : decide ((20 : Int) ≤ lc) = true := decide_eq_true (by omega)
    clear hg0
    go_enter Try.func11, Try.ntmps11
    go_wp2_with fail
    obtain ⟨B1, hb⟩ : ∃ b, b = W.heap.size := ⟨_, rfl⟩
    have l1 : Lin (W.alloc (.cells #[.int .i64 n, .slice am lm cm, .slice ac lc cc] 25)) B1 25 [.int .i64 n, .slice am lm cm, .slice ac lc cc] := by rw [hb]; exact Lin.new _ _ [.int .i64 n, .slice am lm cm, .slice ac lc cc]
    replace S := S.later (Later.new _ (.cells #[.int .i64 n, .slice am lm cm, .slice ac lc cc] 25))
    rw [Later.new_w] at S
    replace hs := hs.later (Later.new _ (.cells #[.int .i64 n, .slice am lm cm, .slice ac lc cc] 25))
    rw [Later.new_w] at hs
    have hsz : (W.alloc (.cells #[.int .i64 n, .slice am lm cm, .slice ac lc cc] 25)).heap.size = B1 + 1 := by rw [hb]; simp
    obtain ⟨Y2, hZ⟩ : ∃ Z : Later W, Z.w = W.alloc (.cells #[.int .i64 n, .slice am lm cm, .slice ac lc cc] 25) := ⟨Later.new _ _, rfl⟩
    rw [← hZ] at S hsz hs l1 ⊢
    clear hZ
    rw [← hb]
    clear hb
    clear hsz
    refine (fine_calls n _ _ ms cs _ hs).mono ?_
    rintro e w' ⟨rfl, y, rfl⟩
    rw [HF.out]
    replace hs := hs.later y
    replace l1 := l1.later y
    replace S := S.later y
    obtain ⟨Y3, hZ⟩ : ∃ Z : Later W, Z.w = y.w := ⟨Y2.step (y), rfl⟩
    rw [← hZ] at S hs l1 ⊢
    clear hZ
    clear y
    have q0_0 := l1.cell (k := 0) rfl
    have q0_1 := l1.cell (k := 1) rfl
    have q0_2 := l1.cell (k := 2) rfl
    have q0_l := l1.lt
    go_wp2_with fail
    clear q0_0 q0_1 q0_2 q0_l
    refine (Works_calls _).mono ?_
    rintro e w' ⟨rfl, y, rfl⟩
    go_wp2
    go_ret
    exact ⟨rfl, Y3.step (y), rfl⟩
  have d0 : decide ((20 : Int) ≤ lc) = false := decide_eq_false (by omega)
  have HG0 := Lib.hid hg0
  clear hg0
  obtain ⟨N, hNd⟩ : ∃ N, someN n b = N := ⟨_, rfl⟩
  have HN := Lib.hid (show Nms n N from hNd ▸ someN_nms n b)
  have HND := Lib.hid hNd
  clear hNd
  obtain ⟨nl, hnl⟩ : ∃ nl, N.length = nl := ⟨_, rfl⟩
  have HNL := Lib.hid hnl
  clear hnl
  have hnl10 : nl ≤ 10 := by rw [← HNL.out]; exact Nat.le_trans HN.out.len h10
  by_cases hn0 : nl = 0
  · have HC1 := Lib.hid (show cntVI n ms cs (natV N) = 1 ∧ nameE n ms cs (natV N) = 0 by rw [HMS.out, HCS.out]; refine ⟨?_, nameE_nat HS.out HN.out⟩; rw [cntVI_nat HS.out HN.out, List.eq_nil_of_length_eq_zero (HNL.out.trans hn0), settL_none]; rfl)
    have hz : ((nl : Int) == 0) = true := by rw [hn0]; rfl
    clear hn0
    go_enter Try.func11, Try.ntmps11
    go_wp2_with fail
    obtain ⟨B1, hb⟩ : ∃ b, b = W.heap.size := ⟨_, rfl⟩
    have l1 : Lin (W.alloc (.cells #[.int .i64 n, .slice am lm cm, .slice ac lc cc] 25)) B1 25 [.int .i64 n, .slice am lm cm, .slice ac lc cc] := by rw [hb]; exact Lin.new _ _ [.int .i64 n, .slice am lm cm, .slice ac lc cc]
    replace S := S.later (Later.new _ (.cells #[.int .i64 n, .slice am lm cm, .slice ac lc cc] 25))
    rw [Later.new_w] at S
    replace hs := hs.later (Later.new _ (.cells #[.int .i64 n, .slice am lm cm, .slice ac lc cc] 25))
    rw [Later.new_w] at hs
    have hsz : (W.alloc (.cells #[.int .i64 n, .slice am lm cm, .slice ac lc cc] 25)).heap.size = B1 + 1 := by rw [hb]; simp
    obtain ⟨Y2, hZ⟩ : ∃ Z : Later W, Z.w = W.alloc (.cells #[.int .i64 n, .slice am lm cm, .slice ac lc cc] 25) := ⟨Later.new _ _, rfl⟩
    rw [← hZ] at S hsz hs l1 ⊢
    clear hZ
    rw [← hb]
    clear hb
    clear hsz
    refine (fine_calls n _ _ ms cs _ hs).mono ?_
    rintro e w' ⟨rfl, y, rfl⟩
    rw [HF.out]
    replace hs := hs.later y
    replace l1 := l1.later y
    replace S := S.later y
    obtain ⟨Y3, hZ⟩ : ∃ Z : Later W, Z.w = y.w := ⟨Y2.step (y), rfl⟩
    rw [← hZ] at S hs l1 ⊢
    clear hZ
    clear y
    have q0_0 := l1.cell (k := 0) rfl
    have q0_1 := l1.cell (k := 1) rfl
    have q0_2 := l1.cell (k := 2) rfl
    have q0_l := l1.lt
    go_wp2_with fail
    clear q0_0 q0_1 q0_2 q0_l
    refine (Some_calls n b _ _ ms cs h10 _ hs).mono ?_
    rintro e w' ⟨v, y, rfl, rfl, hR⟩
    rw [HND.out] at hR
    replace hs := hs.later y
    replace l1 := l1.later y
    replace S := S.later y
    obtain ⟨a4, n4, c4, rfl⟩ : ∃ a n c, v = .slice a n c := by obtain ⟨a, c, e⟩ := hR.form; exact ⟨a, _, c, e⟩
    replace S := S.cons hR
    obtain ⟨Y5, hZ⟩ : ∃ Z : Later W, Z.w = y.w := ⟨Y3.step (y), rfl⟩
    rw [← hZ] at S hs l1 ⊢
    clear hZ
    clear y hR
    obtain rfl : nl = n4 := by obtain ⟨a, c, e⟩ := (S.at (v := .slice a4 n4 c4) (xs := (natV N)) (by simp)).form; cases e; exact (by rw [natV_len, HNL.out])
    have q0_0 := l1.cell (k := 0) rfl
    have q0_1 := l1.cell (k := 1) rfl
    have q0_2 := l1.cell (k := 2) rfl
    have q0_l := l1.lt
    go_wp2_with fail
    clear q0_0 q0_1 q0_2 q0_l
    refine (Count_any n _ _ _ ms cs (natV N) _ hs (S.at (v := .slice a4 nl c4) (xs := (natV N)) (by simp))).mono ?_
    rintro e w' ⟨rfl, y, rfl⟩
    rw [HC1.out.1, HC1.out.2]
    replace hs := hs.later y
    replace l1 := l1.later y
    replace S := S.later y
    obtain ⟨Y6, hZ⟩ : ∃ Z : Later W, Z.w = y.w := ⟨Y5.step (y), rfl⟩
    rw [← hZ] at S hs l1 ⊢
    clear hZ
    clear y
    go_wp2_with fail
    refine (Works_calls _).mono ?_
    rintro e w' ⟨rfl, y, rfl⟩
    replace hs := hs.later y
    replace l1 := l1.later y
    replace S := S.later y
    obtain ⟨Y7, hZ⟩ : ∃ Z : Later W, Z.w = y.w := ⟨Y6.step (y), rfl⟩
    rw [← hZ] at S hs l1 ⊢
    clear hZ
    clear y
    go_wp2
    go_ret
    exact ⟨rfl, Y7, rfl⟩
  obtain ⟨j, hj⟩ : ∃ j, (pl / 2) % nl = j := ⟨_, rfl⟩
  have hjl : j < nl := by rw [← hj]; exact Nat.mod_lt _ (by omega)
  have hjN : j < N.length := by rw [HNL.out]; exact hjl
  obtain ⟨x, hx⟩ : ∃ x, N[j] = x := ⟨_, rfl⟩
  have hxN : x ∈ N := by rw [← hx]; exact List.getElem_mem hjN
  have hxn := HN.out.lt _ hxN
  have HX := Lib.hid (show nth (natV N) j = (x : Nat) by rw [nth_natV hjN, hx])
  have hpl2 : pl % 2 < 2 := Nat.mod_lt _ (by decide)
  obtain ⟨p, hp⟩ : ∃ p, 2 * x + pl % 2 = p := ⟨_, rfl⟩
  have hpn : p < 2 * n := by omega
  have hpx : p / 2 = x := by omega
  have hz : ((nl : Int) == 0) = false := by simp; omega
  have hidx : (pl : Int) / 2 % (nl : Int) = (j : Int) := by rw [← hj]; push_cast; rfl
  have hpv : 2 * (x : Int) + (pl : Int) % 2 = (p : Int) := by omega
  have hcn20 : cn.length < 20 := by have h1 := HCL.out; have h2 := HG0.out; rw [HCS.out, List.length_map] at h1; omega
  obtain ⟨a, b2, hca, hcb, hna, hnb, hcn, hab, hne, hk1, hk2, hv1, hv2⟩ := used_facts HS.out HN.out hpn (by rw [hpx]; exact hxN) hcn20 HMS.out HCS.out
  by_cases ht0 : a + b2 = 0
  · rw [if_pos ht0] at hk1 hk2 hv1 hv2
    rw [ht0] at hcn
    have HCA := Lib.hid hca
    have HCB := Lib.hid hcb
    have HNA := Lib.hid hna
    have HNB := Lib.hid hnb
    have HCN := Lib.hid hcn
    have HNE := Lib.hid hne
    have HK1 := Lib.hid hk1
    have HK2 := Lib.hid hk2
    have HV1 := Lib.hid hv1
    have HV2 := Lib.hid hv2
    clear hca hcb hna hnb hcn hne hk1 hk2 hv1 hv2 ht0 hab
    go_enter Try.func11, Try.ntmps11
    go_wp2_with fail
    obtain ⟨B1, hb⟩ : ∃ b, b = W.heap.size := ⟨_, rfl⟩
    have l1 : Lin (W.alloc (.cells #[.int .i64 n, .slice am lm cm, .slice ac lc cc] 25)) B1 25 [.int .i64 n, .slice am lm cm, .slice ac lc cc] := by rw [hb]; exact Lin.new _ _ [.int .i64 n, .slice am lm cm, .slice ac lc cc]
    replace S := S.later (Later.new _ (.cells #[.int .i64 n, .slice am lm cm, .slice ac lc cc] 25))
    rw [Later.new_w] at S
    replace hs := hs.later (Later.new _ (.cells #[.int .i64 n, .slice am lm cm, .slice ac lc cc] 25))
    rw [Later.new_w] at hs
    have hsz : (W.alloc (.cells #[.int .i64 n, .slice am lm cm, .slice ac lc cc] 25)).heap.size = B1 + 1 := by rw [hb]; simp
    obtain ⟨Y2, hZ⟩ : ∃ Z : Later W, Z.w = W.alloc (.cells #[.int .i64 n, .slice am lm cm, .slice ac lc cc] 25) := ⟨Later.new _ _, rfl⟩
    rw [← hZ] at S hsz hs l1 ⊢
    clear hZ
    rw [← hb]
    clear hb
    clear hsz
    refine (fine_calls n _ _ ms cs _ hs).mono ?_
    rintro e w' ⟨rfl, y, rfl⟩
    rw [HF.out]
    replace hs := hs.later y
    replace l1 := l1.later y
    replace S := S.later y
    obtain ⟨Y3, hZ⟩ : ∃ Z : Later W, Z.w = y.w := ⟨Y2.step (y), rfl⟩
    rw [← hZ] at S hs l1 ⊢
    clear hZ
    clear y
    have q0_0 := l1.cell (k := 0) rfl
    have q0_1 := l1.cell (k := 1) rfl
    have q0_2 := l1.cell (k := 2) rfl
    have q0_l := l1.lt
    go_wp2_with fail
    clear q0_0 q0_1 q0_2 q0_l
    refine (Some_calls n b _ _ ms cs h10 _ hs).mono ?_
    rintro e w' ⟨v, y, rfl, rfl, hR⟩
    rw [HND.out] at hR
    replace hs := hs.later y
    replace l1 := l1.later y
    replace S := S.later y
    obtain ⟨a4, n4, c4, rfl⟩ : ∃ a n c, v = .slice a n c := by obtain ⟨a, c, e⟩ := hR.form; exact ⟨a, _, c, e⟩
    replace S := S.cons hR
    obtain ⟨Y5, hZ⟩ : ∃ Z : Later W, Z.w = y.w := ⟨Y3.step (y), rfl⟩
    rw [← hZ] at S hs l1 ⊢
    clear hZ
    clear y hR
    obtain rfl : nl = n4 := by obtain ⟨a, c, e⟩ := (S.at (v := .slice a4 n4 c4) (xs := (natV N)) (by simp)).form; cases e; exact (by rw [natV_len, HNL.out])
    obtain ⟨ba, oa, ka, e, hka, hba, hga⟩ := (S.at (v := .slice a4 nl c4) (xs := (natV N)) (by simp)).at (k := j) (by rw [natV_len, HNL.out]; exact hjl)
    injection e with e1 e2 e3
    subst e1 e3
    have qa := hga j (by rw [natV_len, HNL.out]; exact hjl)
    clear hga e2
    rw [HX.out] at qa
    have q0_0 := l1.cell (k := 0) rfl
    have q0_1 := l1.cell (k := 1) rfl
    have q0_2 := l1.cell (k := 2) rfl
    have q0_l := l1.lt
    go_wp2_with fail
    clear q0_0 q0_1 q0_2 q0_l
    refine (Kind_any n _ _ _ ms cs (natV N) _ hs (S.at (v := .slice (some ⟨ba, oa, none⟩) nl c4) (xs := (natV N)) (by simp)) p).mono ?_
    rintro e w' ⟨rfl, y, rfl⟩
    rw [HV1.out, HK1.out]
    replace hs := hs.later y
    replace l1 := l1.later y
    replace S := S.later y
    obtain ⟨Y6, hZ⟩ : ∃ Z : Later W, Z.w = y.w := ⟨Y5.step (y), rfl⟩
    rw [← hZ] at S hs l1 ⊢
    clear hZ
    clear y
    clear qa hidx hpv
    have q0_0 := l1.cell (k := 0) rfl
    have q0_1 := l1.cell (k := 1) rfl
    have q0_2 := l1.cell (k := 2) rfl
    have q0_l := l1.lt
    go_wp2
    refine Mix.region_mixL (Mix.kinds [] [3, 4] []) (by kernel_rfl) (by kernel_rfl) ?_
    repeat ((with_reducible refine Mix.atCons ?_); first | refine Mix.skipU (by rfl) rfl (by rfl) ?_ | (refine Mix.val rfl rfl (by rfl) (fun K hK => ?_); go_big_quiet_op; refine hK _ ?_; clear hK K) | (refine Mix.skip (by rfl) ?_; go_frame))
    refine Mix.loud rfl (by rfl) (fun x1 K hK => ?_)
    go_wp2_with fail
    refine (refMate_calls p (by omega) _).mono ?_
    rintro e w' ⟨rfl, hw⟩
    rw [hw]
    refine hK _ (Later.self _) ?_
    clear hK K hw w'
    simp only [Later.self_w]
    try go_frame
    repeat ((with_reducible refine Mix.atCons ?_); first | refine Mix.skipU (by rfl) rfl (by rfl) ?_ | (refine Mix.val rfl rfl (by rfl) (fun K hK => ?_); go_big_quiet_op; refine hK _ ?_; clear hK K) | (refine Mix.skip (by rfl) ?_; go_frame))
    refine Mix.loud rfl (by rfl) (fun x2 K hK => ?_)
    go_wp2_with fail
    refine (Kind_any n _ _ _ ms cs (natV N) _ ((hs.later x1).later x2) (((S.at (v := .slice (some ⟨ba, oa, none⟩) nl c4) (xs := (natV N)) (by simp)).later x1).later x2) (Sat.mate p : Nat)).mono ?_
    rintro e w' ⟨rfl, y2, rfl⟩
    rw [HV2.out, HK2.out]
    refine hK _ y2 ?_
    clear hK K
    try go_frame
    repeat ((with_reducible refine Mix.atCons ?_); first | refine Mix.skipU (by rfl) rfl (by rfl) ?_ | (refine Mix.val rfl rfl (by rfl) (fun K hK => ?_); go_big_quiet_op; refine hK _ ?_; clear hK K) | (refine Mix.skip (by rfl) ?_; go_frame))
    refine Mix.done (fun x3 => ?_)
    clear q0_0 q0_1 q0_2 q0_l
    replace hs := ((((hs.later x1).later x2).later y2).later x3)
    replace l1 := ((((l1.later x1).later x2).later y2).later x3)
    replace S := ((((S.later x1).later x2).later y2).later x3)
    obtain ⟨Y7, hZ⟩ : ∃ Z : Later W, Z.w = x3.w := ⟨Y6.step (x1.step (x2.step (y2.step (x3)))), rfl⟩
    rw [← hZ] at S hs l1 ⊢
    clear hZ
    have q0_0 := l1.cell (k := 0) rfl
    have q0_1 := l1.cell (k := 1) rfl
    have q0_2 := l1.cell (k := 2) rfl
    have q0_l := l1.lt
    go_wp2_with fail
    clear q0_0 q0_1 q0_2 q0_l
    refine (Count_any n _ _ _ ms cs (natV N) _ hs (S.at (v := .slice (some ⟨ba, oa, none⟩) nl c4) (xs := (natV N)) (by simp))).mono ?_
    rintro e w' ⟨rfl, y, rfl⟩
    rw [HCN.out, HNE.out]
    replace hs := hs.later y
    replace l1 := l1.later y
    replace S := S.later y
    obtain ⟨Y8, hZ⟩ : ∃ Z : Later W, Z.w = y.w := ⟨Y7.step (y), rfl⟩
    rw [← hZ] at S hs l1 ⊢
    clear hZ
    clear y
    go_wp2_with fail
    refine (Works_calls _).mono ?_
    rintro e w' ⟨rfl, y, rfl⟩
    go_wp2
    go_ret
    exact ⟨rfl, Y8.step (y), rfl⟩
  rw [if_neg ht0] at hk1 hk2 hv1 hv2
  obtain ⟨tt, htt⟩ : ∃ t, a + b2 = t := ⟨_, rfl⟩
  rw [htt] at hcn hv1 hv2 ht0 hab
  obtain ⟨kk, hkk⟩ : ∃ k, kindV b2 tt = k := ⟨_, rfl⟩
  obtain ⟨oo, hoo⟩ : ∃ k, kindV a tt = k := ⟨_, rfl⟩
  rw [hkk] at hv1
  rw [hoo] at hv2
  have HCA := Lib.hid hca
  have HCB := Lib.hid hcb
  have HNA := Lib.hid hna
  have HNB := Lib.hid hnb
  have HCN := Lib.hid hcn
  have HNE := Lib.hid hne
  have HK1 := Lib.hid hk1
  have HK2 := Lib.hid hk2
  have HV1 := Lib.hid hv1
  have HV2 := Lib.hid hv2
  clear hca hcb hna hnb hcn hne hk1 hk2 hv1 hv2
  have htp : decide ((0 : Int) < tt) = true := decide_eq_true (by omega)
  have HKK := Lib.hid hkk
  have HOO := Lib.hid hoo
  have HTT := Lib.hid htt
  clear hkk hoo htt
  go_enter Try.func11, Try.ntmps11
  go_wp2_with fail
  obtain ⟨B1, hb⟩ : ∃ b, b = W.heap.size := ⟨_, rfl⟩
  have l1 : Lin (W.alloc (.cells #[.int .i64 n, .slice am lm cm, .slice ac lc cc] 25)) B1 25 [.int .i64 n, .slice am lm cm, .slice ac lc cc] := by rw [hb]; exact Lin.new _ _ [.int .i64 n, .slice am lm cm, .slice ac lc cc]
  replace S := S.later (Later.new _ (.cells #[.int .i64 n, .slice am lm cm, .slice ac lc cc] 25))
  rw [Later.new_w] at S
  replace hs := hs.later (Later.new _ (.cells #[.int .i64 n, .slice am lm cm, .slice ac lc cc] 25))
  rw [Later.new_w] at hs
  have hsz : (W.alloc (.cells #[.int .i64 n, .slice am lm cm, .slice ac lc cc] 25)).heap.size = B1 + 1 := by rw [hb]; simp
  obtain ⟨Y2, hZ⟩ : ∃ Z : Later W, Z.w = W.alloc (.cells #[.int .i64 n, .slice am lm cm, .slice ac lc cc] 25) := ⟨Later.new _ _, rfl⟩
  rw [← hZ] at S hsz hs l1 ⊢
  clear hZ
  rw [← hb]
  clear hb
  clear hsz
  refine (fine_calls n _ _ ms cs _ hs).mono ?_
  rintro e w' ⟨rfl, y, rfl⟩
  rw [HF.out]
  replace hs := hs.later y
  replace l1 := l1.later y
  replace S := S.later y
  obtain ⟨Y3, hZ⟩ : ∃ Z : Later W, Z.w = y.w := ⟨Y2.step (y), rfl⟩
  rw [← hZ] at S hs l1 ⊢
  clear hZ
  clear y
  have q0_0 := l1.cell (k := 0) rfl
  have q0_1 := l1.cell (k := 1) rfl
  have q0_2 := l1.cell (k := 2) rfl
  have q0_l := l1.lt
  go_wp2_with fail
  clear q0_0 q0_1 q0_2 q0_l
  refine (Some_calls n b _ _ ms cs h10 _ hs).mono ?_
  rintro e w' ⟨v, y, rfl, rfl, hR⟩
  rw [HND.out] at hR
  replace hs := hs.later y
  replace l1 := l1.later y
  replace S := S.later y
  obtain ⟨a4, n4, c4, rfl⟩ : ∃ a n c, v = .slice a n c := by obtain ⟨a, c, e⟩ := hR.form; exact ⟨a, _, c, e⟩
  replace S := S.cons hR
  obtain ⟨Y5, hZ⟩ : ∃ Z : Later W, Z.w = y.w := ⟨Y3.step (y), rfl⟩
  rw [← hZ] at S hs l1 ⊢
  clear hZ
  clear y hR
  obtain rfl : nl = n4 := by obtain ⟨a, c, e⟩ := (S.at (v := .slice a4 n4 c4) (xs := (natV N)) (by simp)).form; cases e; exact (by rw [natV_len, HNL.out])
  obtain ⟨ba, oa, ka, e, hka, hba, hga⟩ := (S.at (v := .slice a4 nl c4) (xs := (natV N)) (by simp)).at (k := j) (by rw [natV_len, HNL.out]; exact hjl)
  injection e with e1 e2 e3
  subst e1 e3
  have qa := hga j (by rw [natV_len, HNL.out]; exact hjl)
  clear hga e2
  rw [HX.out] at qa
  have q0_0 := l1.cell (k := 0) rfl
  have q0_1 := l1.cell (k := 1) rfl
  have q0_2 := l1.cell (k := 2) rfl
  have q0_l := l1.lt
  go_wp2_with fail
  clear q0_0 q0_1 q0_2 q0_l
  refine (Kind_any n _ _ _ ms cs (natV N) _ hs (S.at (v := .slice (some ⟨ba, oa, none⟩) nl c4) (xs := (natV N)) (by simp)) p).mono ?_
  rintro e w' ⟨rfl, y, rfl⟩
  rw [HV1.out, HK1.out]
  replace hs := hs.later y
  replace l1 := l1.later y
  replace S := S.later y
  obtain ⟨Y6, hZ⟩ : ∃ Z : Later W, Z.w = y.w := ⟨Y5.step (y), rfl⟩
  rw [← hZ] at S hs l1 ⊢
  clear hZ
  clear y
  clear qa hidx hpv
  have q0_0 := l1.cell (k := 0) rfl
  have q0_1 := l1.cell (k := 1) rfl
  have q0_2 := l1.cell (k := 2) rfl
  have q0_l := l1.lt
  go_wp2
  refine Mix.region_mixL (Mix.kinds [] [3, 4] []) (by kernel_rfl) (by kernel_rfl) ?_
  repeat ((with_reducible refine Mix.atCons ?_); first | refine Mix.skipU (by rfl) rfl (by rfl) ?_ | (refine Mix.val rfl rfl (by rfl) (fun K hK => ?_); go_big_quiet_op; refine hK _ ?_; clear hK K) | (refine Mix.skip (by rfl) ?_; go_frame))
  refine Mix.loud rfl (by rfl) (fun x1 K hK => ?_)
  go_wp2_with fail
  refine (refMate_calls p (by omega) _).mono ?_
  rintro e w' ⟨rfl, hw⟩
  rw [hw]
  refine hK _ (Later.self _) ?_
  clear hK K hw w'
  simp only [Later.self_w]
  try go_frame
  repeat ((with_reducible refine Mix.atCons ?_); first | refine Mix.skipU (by rfl) rfl (by rfl) ?_ | (refine Mix.val rfl rfl (by rfl) (fun K hK => ?_); go_big_quiet_op; refine hK _ ?_; clear hK K) | (refine Mix.skip (by rfl) ?_; go_frame))
  refine Mix.loud rfl (by rfl) (fun x2 K hK => ?_)
  go_wp2_with fail
  refine (Kind_any n _ _ _ ms cs (natV N) _ ((hs.later x1).later x2) (((S.at (v := .slice (some ⟨ba, oa, none⟩) nl c4) (xs := (natV N)) (by simp)).later x1).later x2) (Sat.mate p : Nat)).mono ?_
  rintro e w' ⟨rfl, y2, rfl⟩
  rw [HV2.out, HK2.out]
  refine hK _ y2 ?_
  clear hK K
  try go_frame
  repeat ((with_reducible refine Mix.atCons ?_); first | refine Mix.skipU (by rfl) rfl (by rfl) ?_ | (refine Mix.val rfl rfl (by rfl) (fun K hK => ?_); go_big_quiet_op; refine hK _ ?_; clear hK K) | (refine Mix.skip (by rfl) ?_; go_frame))
  refine Mix.done (fun x3 => ?_)
  clear q0_0 q0_1 q0_2 q0_l
  replace hs := ((((hs.later x1).later x2).later y2).later x3)
  replace l1 := ((((l1.later x1).later x2).later y2).later x3)
  replace S := ((((S.later x1).later x2).later y2).later x3)
  obtain ⟨Y7, hZ⟩ : ∃ Z : Later W, Z.w = x3.w := ⟨Y6.step (x1.step (x2.step (y2.step (x3)))), rfl⟩
  rw [← hZ] at S hs l1 ⊢
  clear hZ
  have q0_0 := l1.cell (k := 0) rfl
  have q0_1 := l1.cell (k := 1) rfl
  have q0_2 := l1.cell (k := 2) rfl
  have q0_l := l1.lt
  go_wp2_with fail
  clear q0_0 q0_1 q0_2 q0_l
  refine (Count_any n _ _ _ ms cs (natV N) _ hs (S.at (v := .slice (some ⟨ba, oa, none⟩) nl c4) (xs := (natV N)) (by simp))).mono ?_
  rintro e w' ⟨rfl, y, rfl⟩
  rw [HCN.out, HNE.out]
  replace hs := hs.later y
  replace l1 := l1.later y
  replace S := S.later y
  obtain ⟨Y8, hZ⟩ : ∃ Z : Later W, Z.w = y.w := ⟨Y7.step (y), rfl⟩
  rw [← hZ] at S hs l1 ⊢
  clear hZ
  clear y
  have q0_0 := l1.cell (k := 0) rfl
  have q0_1 := l1.cell (k := 1) rfl
  have q0_2 := l1.cell (k := 2) rfl
  have q0_l := l1.lt
  go_wp2
  clear q0_0 q0_1 q0_2 q0_l
  apply joinK (A := Later Y8.w) (H := fun V T1 T2 => Lin V.w T1 25 [.int .i64 n, .slice am lm cm, .slice ac lc cc] ∧ Lin V.w T2 25 [.int .i64 n, .slice am lm cm, .slice ac lc cc] ∧ Y8.w.heap.size ≤ T1 ∧ Y8.w.heap.size ≤ T2 ∧ T1 ≠ T2 ∧ B1 ≠ T1 ∧ B1 ≠ T2)
  · intro key
    refine wp_region_held (S := fun w' => Lin w' B1 25 [.int .i64 n, .slice am lm cm, .slice ac lc cc]) (by kernel_rfl) ?_
    show wpAnyH _ _ _ _ _ _ _ _ Y8.w.drew
    obtain ⟨V9, hV9⟩ : ∃ V : Later Y8.w, V.w = Y8.w.drew := ⟨Later.draw Y8.w, rfl⟩
    have lE := l1.later V9
    rw [← hV9]
    clear hV9
    refine wpAnyH_take (i := 0) (v := .agg #[.int .i64 n, .slice am lm cm, .slice ac lc cc]) rfl (by kernel_rfl) (by kernel_rfl) (by kernel_rfl) (fun _ _ _ h => h) (.inl ⟨by rfl, fun w' hw' => exec_loadS rfl rfl hw'⟩) lE ?_
    simp only [List.getElem_toArray, List.getElem_cons_zero, Act.put, List.setIfInBounds_toArray, List.set]
    refine wpAnyH_take (i := 1) (v := .agg #[.int .i64 n, .slice am lm cm, .slice ac lc cc]) rfl (by kernel_rfl) (by kernel_rfl) (by kernel_rfl) (fun _ _ _ h => h) (.inl ⟨by rfl, fun w' hw' => exec_loadS rfl rfl hw'⟩) lE ?_
    simp only [List.getElem_toArray, List.getElem_cons_succ, List.getElem_cons_zero, Act.put, List.setIfInBounds_toArray, List.set]
    refine wpAnyH_all (rs := [2, 3]) (by kernel_rfl) (by simp) (fun i hi => ?_)
    have hi2 : i = 2 ∨ i = 3 := by simpa using hi
    clear hi
    rcases hi2 with rfl | rfl
    · refine wpOp_some rfl (by rfl) (fun K hK => ?_)
      simp only [List.getElem_toArray, List.getElem_cons_succ, List.getElem_cons_zero]
      go_wp2_with fail
      obtain ⟨T1, hTae⟩ : ∃ T, T = V9.w.heap.size := ⟨_, rfl⟩
      obtain ⟨A1, hA1⟩ : ∃ A : Later V9.w, A.w = V9.w.alloc (.cells #[.int .i64 0, .slice none 0 0, .slice none 0 0] 25) := ⟨Later.new _ _, rfl⟩
      have k1 : Lin A1.w T1 25 [.int .i64 0, .slice none 0 0, .slice none 0 0] := by rw [hA1, hTae]; exact Lin.new _ _ [.int .i64 0, .slice none 0 0, .slice none 0 0]
      have lE1 := lE.later A1
      rw [← hA1, ← hTae]
      refine ⟨lE1, ?_⟩
      have hT1 : Y8.w.heap.size ≤ T1 := by rw [hTae]; exact V9.size
      clear hA1 hTae
      obtain ⟨T2, hTbe⟩ : ∃ T, T = A1.w.heap.size := ⟨_, rfl⟩
      obtain ⟨A2, hA2⟩ : ∃ A : Later A1.w, A.w = A1.w.alloc (.cells #[.int .i64 0, .slice none 0 0, .slice none 0 0] 25) := ⟨Later.new _ _, rfl⟩
      have k2 : Lin A2.w T2 25 [.int .i64 0, .slice none 0 0, .slice none 0 0] := by rw [hA2, hTbe]; exact Lin.new _ _ [.int .i64 0, .slice none 0 0, .slice none 0 0]
      have lE2 := lE1.later A2
      have HA2 := Lib.hid hA2
      have HTbe := Lib.hid hTbe
      clear hA2 hTbe
      refine wpAnyH_all (rs := [3]) (by kernel_rfl) (by simp) (fun i hi => ?_)
      obtain rfl : i = 3 := by simpa using hi
      clear hi
      refine wpOp_some rfl (by rfl) (fun K hK => ?_)
      simp only [List.getElem_toArray, List.getElem_cons_succ, List.getElem_cons_zero]
      go_wp2_with fail
      rw [← HA2.out, ← HTbe.out]
      refine ⟨lE2, ?_⟩
      have hT2 : Y8.w.heap.size ≤ T2 := by rw [HTbe.out]; exact Nat.le_trans V9.size A1.size
      have hT12 : T1 ≠ T2 := by have := k1.lt; have := HTbe.out; omega
      have hb1 : B1 ≠ T1 := by have := l1.lt; omega
      have hb2 : B1 ≠ T2 := by have := l1.lt; omega
      replace k1 := k1.later A2
      have hB4 : Below Y8.w.heap.size Y8.w A2.w := ((V9.step A1).step A2).le
      have t0 := k1.cell (k := 0) rfl
      have t1' := k1.cell (k := 1) rfl
      have t2' := k1.cell (k := 2) rfl
      have f0 := k1.frozen 0
      have f1 := k1.frozen 1
      have f2 := k1.frozen 2
      have tl := k1.lt
      have HB := Lib.hid (((hB4.setCell (p := ⟨T1, 0, none⟩) hT1 (.int .i64 n)).setCell (p := ⟨T1, 1, none⟩) hT1 (.slice am lm cm)).setCell (p := ⟨T1, 2, none⟩) hT1 (.slice ac lc cc))
      have HK1 := Lib.hid (((k1.set 0 (.int .i64 n)).set 1 (.slice am lm cm)).set 2 (.slice ac lc cc))
      have HK2 := Lib.hid (((k2.other (b := T1) (k := 0) hT12.symm (.int .i64 n)).other (b := T1) (k := 1) hT12.symm (.slice am lm cm)).other (b := T1) (k := 2) hT12.symm (.slice ac lc cc))
      have HE4 := Lib.hid (((lE2.other (b := T1) (k := 0) hb1 (.int .i64 n)).other (b := T1) (k := 1) hb1 (.slice am lm cm)).other (b := T1) (k := 2) hb1 (.slice ac lc cc))
      clear k1 k2 hB4 lE lE1 lE2 HTbe HA2
      refine wpAnyH_all (rs := [4]) (by kernel_rfl) (by simp) (fun i hi => ?_)
      obtain rfl : i = 4 := by simpa using hi
      clear hi
      refine wpOp_some rfl (by rfl) (fun K hK => ?_)
      simp only [List.getElem_toArray, List.getElem_cons_succ, List.getElem_cons_zero]
      go_wp2_with fail
      clear t0 t1' t2' f0 f1 f2 tl
      obtain ⟨U4, hU4⟩ : ∃ U, ((A2.w.setCell ⟨T1, 0, none⟩ (.int .i64 n)).setCell ⟨T1, 1, none⟩ (.slice am lm cm)).setCell ⟨T1, 2, none⟩ (.slice ac lc cc) = U := ⟨_, rfl⟩
      rw [hU4] at HB HK1 HK2 HE4 ⊢
      clear hU4
      refine ⟨HE4.out, ?_⟩
      have k2 := HK2.out
      have t0 := k2.cell (k := 0) rfl
      have t1' := k2.cell (k := 1) rfl
      have t2' := k2.cell (k := 2) rfl
      have f0 := k2.frozen 0
      have f1 := k2.frozen 1
      have f2 := k2.frozen 2
      have tl := k2.lt
      have HB2 := Lib.hid (((HB.out.setCell (p := ⟨T2, 0, none⟩) hT2 (.int .i64 n)).setCell (p := ⟨T2, 1, none⟩) hT2 (.slice am lm cm)).setCell (p := ⟨T2, 2, none⟩) hT2 (.slice ac lc cc))
      have HL1 := Lib.hid (((HK1.out.other (b := T2) (k := 0) hT12 (.int .i64 n)).other (b := T2) (k := 1) hT12 (.slice am lm cm)).other (b := T2) (k := 2) hT12 (.slice ac lc cc))
      have HL2 := Lib.hid (((k2.set 0 (.int .i64 n)).set 1 (.slice am lm cm)).set 2 (.slice ac lc cc))
      have HE5 := Lib.hid (((HE4.out.other (b := T2) (k := 0) hb2 (.int .i64 n)).other (b := T2) (k := 1) hb2 (.slice am lm cm)).other (b := T2) (k := 2) hb2 (.slice ac lc cc))
      clear k2 HK1 HK2 HB HE4
      refine wpAnyH_all (rs := [5]) (by kernel_rfl) (by simp) (fun i hi => ?_)
      obtain rfl : i = 5 := by simpa using hi
      clear hi
      refine wpOp_some rfl (by rfl) (fun K hK => ?_)
      simp only [List.getElem_toArray, List.getElem_cons_succ, List.getElem_cons_zero]
      go_wp2_with fail
      clear t0 t1' t2' f0 f1 f2 tl
      refine ⟨HE5.out, ?_⟩
      refine wpAnyH_done (by kernel_rfl) ?_ _
      obtain ⟨V1, hV1⟩ : ∃ V1 : Later Y8.w, V1.w = ((U4.setCell ⟨T2, 0, none⟩ (.int .i64 n)).setCell ⟨T2, 1, none⟩ (.slice am lm cm)).setCell ⟨T2, 2, none⟩ (.slice ac lc cc) := ⟨⟨_, HB2.out⟩, rfl⟩
      have lq : Lin V1.w T1 25 [.int .i64 n, .slice am lm cm, .slice ac lc cc] := by rw [hV1]; exact HL1.out
      have lr : Lin V1.w T2 25 [.int .i64 n, .slice am lm cm, .slice ac lc cc] := by rw [hV1]; exact HL2.out
      rw [← hV1]
      clear hV1 HL1 HL2 HB2 HE5
      exact key V1 T1 T2 ⟨lq, lr, hT1, hT2, hT12, hb1, hb2⟩
    · refine wpOp_some rfl (by rfl) (fun K hK => ?_)
      simp only [List.getElem_toArray, List.getElem_cons_succ, List.getElem_cons_zero]
      go_wp2_with fail
      obtain ⟨T2, hTae⟩ : ∃ T, T = V9.w.heap.size := ⟨_, rfl⟩
      obtain ⟨A1, hA1⟩ : ∃ A : Later V9.w, A.w = V9.w.alloc (.cells #[.int .i64 0, .slice none 0 0, .slice none 0 0] 25) := ⟨Later.new _ _, rfl⟩
      have k2 : Lin A1.w T2 25 [.int .i64 0, .slice none 0 0, .slice none 0 0] := by rw [hA1, hTae]; exact Lin.new _ _ [.int .i64 0, .slice none 0 0, .slice none 0 0]
      have lE1 := lE.later A1
      rw [← hA1, ← hTae]
      refine ⟨lE1, ?_⟩
      have hT2 : Y8.w.heap.size ≤ T2 := by rw [hTae]; exact V9.size
      clear hA1 hTae
      obtain ⟨T1, hTbe⟩ : ∃ T, T = A1.w.heap.size := ⟨_, rfl⟩
      obtain ⟨A2, hA2⟩ : ∃ A : Later A1.w, A.w = A1.w.alloc (.cells #[.int .i64 0, .slice none 0 0, .slice none 0 0] 25) := ⟨Later.new _ _, rfl⟩
      have k1 : Lin A2.w T1 25 [.int .i64 0, .slice none 0 0, .slice none 0 0] := by rw [hA2, hTbe]; exact Lin.new _ _ [.int .i64 0, .slice none 0 0, .slice none 0 0]
      have lE2 := lE1.later A2
      have HA2 := Lib.hid hA2
      have HTbe := Lib.hid hTbe
      clear hA2 hTbe
      refine wpAnyH_all (rs := [2]) (by kernel_rfl) (by simp) (fun i hi => ?_)
      obtain rfl : i = 2 := by simpa using hi
      clear hi
      refine wpOp_some rfl (by rfl) (fun K hK => ?_)
      simp only [List.getElem_toArray, List.getElem_cons_succ, List.getElem_cons_zero]
      go_wp2_with fail
      rw [← HA2.out, ← HTbe.out]
      refine ⟨lE2, ?_⟩
      have hT1 : Y8.w.heap.size ≤ T1 := by rw [HTbe.out]; exact Nat.le_trans V9.size A1.size
      have hT12 : T1 ≠ T2 := by have := k2.lt; have := HTbe.out; omega
      have hb1 : B1 ≠ T1 := by have := l1.lt; omega
      have hb2 : B1 ≠ T2 := by have := l1.lt; omega
      replace k2 := k2.later A2
      have hB4 : Below Y8.w.heap.size Y8.w A2.w := ((V9.step A1).step A2).le
      have t0 := k1.cell (k := 0) rfl
      have t1' := k1.cell (k := 1) rfl
      have t2' := k1.cell (k := 2) rfl
      have f0 := k1.frozen 0
      have f1 := k1.frozen 1
      have f2 := k1.frozen 2
      have tl := k1.lt
      have HB := Lib.hid (((hB4.setCell (p := ⟨T1, 0, none⟩) hT1 (.int .i64 n)).setCell (p := ⟨T1, 1, none⟩) hT1 (.slice am lm cm)).setCell (p := ⟨T1, 2, none⟩) hT1 (.slice ac lc cc))
      have HK1 := Lib.hid (((k1.set 0 (.int .i64 n)).set 1 (.slice am lm cm)).set 2 (.slice ac lc cc))
      have HK2 := Lib.hid (((k2.other (b := T1) (k := 0) hT12.symm (.int .i64 n)).other (b := T1) (k := 1) hT12.symm (.slice am lm cm)).other (b := T1) (k := 2) hT12.symm (.slice ac lc cc))
      have HE4 := Lib.hid (((lE2.other (b := T1) (k := 0) hb1 (.int .i64 n)).other (b := T1) (k := 1) hb1 (.slice am lm cm)).other (b := T1) (k := 2) hb1 (.slice ac lc cc))
      clear k1 k2 hB4 lE lE1 lE2 HTbe HA2
      refine wpAnyH_all (rs := [4]) (by kernel_rfl) (by simp) (fun i hi => ?_)
      obtain rfl : i = 4 := by simpa using hi
      clear hi
      refine wpOp_some rfl (by rfl) (fun K hK => ?_)
      simp only [List.getElem_toArray, List.getElem_cons_succ, List.getElem_cons_zero]
      go_wp2_with fail
      clear t0 t1' t2' f0 f1 f2 tl
      obtain ⟨U4, hU4⟩ : ∃ U, ((A2.w.setCell ⟨T1, 0, none⟩ (.int .i64 n)).setCell ⟨T1, 1, none⟩ (.slice am lm cm)).setCell ⟨T1, 2, none⟩ (.slice ac lc cc) = U := ⟨_, rfl⟩
      rw [hU4] at HB HK1 HK2 HE4 ⊢
      clear hU4
      refine ⟨HE4.out, ?_⟩
      have k2 := HK2.out
      have t0 := k2.cell (k := 0) rfl
      have t1' := k2.cell (k := 1) rfl
      have t2' := k2.cell (k := 2) rfl
      have f0 := k2.frozen 0
      have f1 := k2.frozen 1
      have f2 := k2.frozen 2
      have tl := k2.lt
      have HB2 := Lib.hid (((HB.out.setCell (p := ⟨T2, 0, none⟩) hT2 (.int .i64 n)).setCell (p := ⟨T2, 1, none⟩) hT2 (.slice am lm cm)).setCell (p := ⟨T2, 2, none⟩) hT2 (.slice ac lc cc))
      have HL1 := Lib.hid (((HK1.out.other (b := T2) (k := 0) hT12 (.int .i64 n)).other (b := T2) (k := 1) hT12 (.slice am lm cm)).other (b := T2) (k := 2) hT12 (.slice ac lc cc))
      have HL2 := Lib.hid (((k2.set 0 (.int .i64 n)).set 1 (.slice am lm cm)).set 2 (.slice ac lc cc))
      have HE5 := Lib.hid (((HE4.out.other (b := T2) (k := 0) hb2 (.int .i64 n)).other (b := T2) (k := 1) hb2 (.slice am lm cm)).other (b := T2) (k := 2) hb2 (.slice ac lc cc))
      clear k2 HK1 HK2 HB HE4
      refine wpAnyH_all (rs := [5]) (by kernel_rfl) (by simp) (fun i hi => ?_)
      obtain rfl : i = 5 := by simpa using hi
      clear hi
      refine wpOp_some rfl (by rfl) (fun K hK => ?_)
      simp only [List.getElem_toArray, List.getElem_cons_succ, List.getElem_cons_zero]
      go_wp2_with fail
      clear t0 t1' t2' f0 f1 f2 tl
      refine ⟨HE5.out, ?_⟩
      refine wpAnyH_done (by kernel_rfl) ?_ _
      obtain ⟨V1, hV1⟩ : ∃ V1 : Later Y8.w, V1.w = ((U4.setCell ⟨T2, 0, none⟩ (.int .i64 n)).setCell ⟨T2, 1, none⟩ (.slice am lm cm)).setCell ⟨T2, 2, none⟩ (.slice ac lc cc) := ⟨⟨_, HB2.out⟩, rfl⟩
      have lq : Lin V1.w T1 25 [.int .i64 n, .slice am lm cm, .slice ac lc cc] := by rw [hV1]; exact HL1.out
      have lr : Lin V1.w T2 25 [.int .i64 n, .slice am lm cm, .slice ac lc cc] := by rw [hV1]; exact HL2.out
      rw [← hV1]
      clear hV1 HL1 HL2 HB2 HE5
      exact key V1 T1 T2 ⟨lq, lr, hT1, hT2, hT12, hb1, hb2⟩
  · intro V1 T1 T2 hall
    obtain ⟨lq, lr, hT1, hT2, hT12, hb1, hb2⟩ := hall
    have hcl : cs.length ≤ 20 := by have h := HG0.out; have h2 := HCL.out; omega
    have hE := IntsM.empty V1.w (lo := V1.w.heap.size) rfl (Nat.le_refl _)
    have hO1 := (hs.c.later V1).later (Later.new V1.w (.cells #[] 3))
    rw [Later.new_w] at hO1
    obtain ⟨a1', n1', c1', q1, hr1, hA1⟩ := app_emptyM hE hO1 (by simp) (by omega) 23
    have HR1 := Lib.hid hr1
    obtain ⟨v2, q2, hr2, hA2, -⟩ := app_int_stepM (W := V1.w) ((Later.new V1.w (.cells #[] 3)).step q1).le hA1 (p : Int) (by omega) 23
    obtain ⟨a2', n2', c2', rfl⟩ := hA2.form'
    have HR2 := Lib.hid hr2
    have HA2 := Lib.hid hA2
    clear hE hO1 hr1 hA1 hr2 hA2
    have lB := l1.later V1
    have p0 := lB.cell (k := 2) rfl
    have pB := lB.lt
    have lq2 := lq.later q2
    have t2' := lq2.cell (k := 2) rfl
    have f2 := lq2.frozen 2
    have tl := lq2.lt
    have lB6 := (lB.later q2).other (b := T1) (k := 2) hb1 (.slice a2' n2' c2')
    have r0 := lB6.cell (k := 2) rfl
    have rB := lB6.lt
    have hB6 : Below Y8.w.heap.size Y8.w (q2.w.setCell ⟨T1, 2, none⟩ (.slice a2' n2' c2')) := (V1.step q2).le.setCell (p := ⟨T1, 2, none⟩) hT1 (.slice a2' n2' c2')
    have hE2 := IntsM.empty (q2.w.setCell ⟨T1, 2, none⟩ (.slice a2' n2' c2')) (lo := (q2.w.setCell ⟨T1, 2, none⟩ (.slice a2' n2' c2')).heap.size) (b := q2.w.heap.size) (by simp [World.setCell]) (Nat.le_refl _)
    have hO2 := (hs.c.later ⟨(q2.w.setCell ⟨T1, 2, none⟩ (.slice a2' n2' c2')), hB6⟩).later (Later.new (q2.w.setCell ⟨T1, 2, none⟩ (.slice a2' n2' c2')) (.cells #[] 3))
    rw [Later.new_w] at hO2
    obtain ⟨a3', n3', c3', q3, hr3, hA3⟩ := app_emptyM hE2 hO2 (by simp) (by omega) 23
    have HR3 := Lib.hid hr3
    obtain ⟨v4, q4, hr4, hA4, -⟩ := app_int_stepM (W := (q2.w.setCell ⟨T1, 2, none⟩ (.slice a2' n2' c2'))) ((Later.new (q2.w.setCell ⟨T1, 2, none⟩ (.slice a2' n2' c2')) (.cells #[] 3)).step q3).le hA3 (Sat.mate p : Nat) (by omega) 23
    obtain ⟨a4', n4', c4', rfl⟩ := hA4.form'
    have HR4 := Lib.hid hr4
    have HA4 := Lib.hid hA4
    have lq6 := (lq.later q2).set 2 (.slice a2' n2' c2')
    have lr6 := (lr.later q2).other (b := T1) (k := 2) hT12.symm (.slice a2' n2' c2')
    have lr4 := lr6.later q4
    have u2' := lr4.cell (k := 2) rfl
    have g2 := lr4.frozen 2
    have ul := lr4.lt
    have lq7 := (lq6.later q4).other (b := T2) (k := 2) hT12 (.slice a4' n4' c4')
    have lr7 := lr4.set 2 (.slice a4' n4' c4')
    have hB7 : Below Y8.w.heap.size Y8.w (q4.w.setCell ⟨T2, 2, none⟩ (.slice a4' n4' c4')) := (hB6.trans (q4.le.mono hB6.size)).setCell (p := ⟨T2, 2, none⟩) hT2 (.slice a4' n4' c4')
    have hIx := ((HA2.out.past (T := T1) lq.lt 2 (.slice a2' n2' c2')).later q4).past (T := T2) lr.lt 2 (.slice a4' n4' c4')
    have hIy := HA4.out.past (T := T2) lr6.lt 2 (.slice a4' n4' c4')
    have HQ7 := Lib.hid lq7
    have HL7 := Lib.hid lr7
    have HB7 := Lib.hid hB7
    have HIX := Lib.hid hIx
    have HIY := Lib.hid hIy
    have s0 := lq7.cell (k := 0) rfl
    have s1 := lq7.cell (k := 1) rfl
    have s2 := lq7.cell (k := 2) rfl
    have sl := lq7.lt
    clear lB6 hE2 hO2 hr3 hA3 hr4 hA4 lq6 lr6 lr4 lq7 lr7 hB6 hB7 hIx hIy
    go_wp2_with (first | ((with_reducible show wpList _ _ _ (⟨some 117, _, _, _, _, _⟩ :: _) _ _); refine Lib.wpList_append_run_sl _ rfl _ _ 23 rfl _ _ rfl rfl HR1.out ?_) | ((with_reducible show wpList _ _ _ (⟨some 120, _, _, _, _, _⟩ :: _) _ _); refine Lib.wpList_append_run_sl _ rfl _ _ 23 rfl _ _ rfl rfl HR2.out ?_) | ((with_reducible show wpList _ _ _ (⟨some 125, _, _, _, _, _⟩ :: _) _ _); refine Lib.wpList_append_run_sl _ rfl _ _ 23 rfl _ _ rfl rfl HR3.out ?_))
    refine (refMate_calls p (by omega) _).mono ?_
    rintro e w' ⟨rfl, rfl⟩
    go_wp2_with ((with_reducible show wpList _ _ _ (⟨some 129, _, _, _, _, _⟩ :: _) _ _); refine Lib.wpList_append_run_sl _ rfl _ _ 23 rfl _ _ rfl rfl HR4.out ?_)
    obtain ⟨V7, hV7⟩ : ∃ V : Later Y8.w, V.w = (q4.w.setCell ⟨T2, 2, none⟩ (.slice a4' n4' c4')) := ⟨⟨_, HB7.out⟩, rfl⟩
    have lq7 : Lin V7.w T1 25 [.int .i64 n, .slice am lm cm, (.slice a2' n2' c2')] := by rw [hV7]; exact HQ7.out
    have lr7 : Lin V7.w T2 25 [.int .i64 n, .slice am lm cm, (.slice a4' n4' c4')] := by rw [hV7]; exact HL7.out
    have hSx : Sht V7.w (.slice am lm cm) (.slice a2' n2' c2') ms (cs ++ [(p : Int)]) := ⟨(hs.later V7).m, by rw [hV7]; exact HIX.out.ints (by simp; omega)⟩
    have hSy : Sht V7.w (.slice am lm cm) (.slice a4' n4' c4') ms (cs ++ [((Sat.mate p : Nat) : Int)]) := ⟨(hs.later V7).m, by rw [hV7]; exact HIY.out.ints (by simp; omega)⟩
    rw [← hV7]
    clear hV7 HQ7 HL7 HB7 HIX HIY s0 s1 s2 sl u2' g2 ul t2' f2 tl lq2 r0 rB p0 pB lB HA2 HA4 HR1 HR2 HR3 HR4 lq lr hT1 hT2 hT12 hb1 hb2
    replace hs := hs.later V7
    replace l1 := l1.later V7
    replace S := S.later V7
    obtain ⟨Y9, hZ⟩ : ∃ Z : Later W, Z.w = V7.w := ⟨Y8.step (V7), rfl⟩
    rw [← hZ] at S hs l1 lq7 lr7 hSx hSy ⊢
    clear hZ
    refine (Count_any n _ _ _ ms _ (natV N) _ hSx (S.at (v := .slice (some ⟨ba, oa, none⟩) nl c4) (xs := (natV N)) (by simp))).mono ?_
    rintro e w' ⟨rfl, y, rfl⟩
    rw [HCA.out, HNA.out]
    replace hs := hs.later y
    replace l1 := l1.later y
    replace lq7 := lq7.later y
    replace lr7 := lr7.later y
    replace hSx := hSx.later y
    replace hSy := hSy.later y
    replace S := S.later y
    obtain ⟨Y10, hZ⟩ : ∃ Z : Later W, Z.w = y.w := ⟨Y9.step (y), rfl⟩
    rw [← hZ] at S hs l1 lq7 lr7 hSx hSy ⊢
    clear hZ
    clear y
    have q0_0 := lr7.cell (k := 0) rfl
    have q0_1 := lr7.cell (k := 1) rfl
    have q0_2 := lr7.cell (k := 2) rfl
    have q0_l := lr7.lt
    go_wp2_with fail
    clear q0_0 q0_1 q0_2 q0_l
    refine (Count_any n _ _ _ ms _ (natV N) _ hSy (S.at (v := .slice (some ⟨ba, oa, none⟩) nl c4) (xs := (natV N)) (by simp))).mono ?_
    rintro e w' ⟨rfl, y, rfl⟩
    rw [HCB.out, HNB.out]
    replace hs := hs.later y
    replace l1 := l1.later y
    replace lq7 := lq7.later y
    replace lr7 := lr7.later y
    replace hSx := hSx.later y
    replace hSy := hSy.later y
    replace S := S.later y
    obtain ⟨Y11, hZ⟩ : ∃ Z : Later W, Z.w = y.w := ⟨Y10.step (y), rfl⟩
    rw [← hZ] at S hs l1 lq7 lr7 hSx hSy ⊢
    clear hZ
    clear y
    have hsm := HTT.out
    have e1 : decide ((a : Int) < 0) = false := decide_eq_false (by omega)
    have e2 : decide ((b2 : Int) < 0) = false := decide_eq_false (by omega)
    have e3 : decide ((tt : Int) < (a : Int)) = false := decide_eq_false (by omega)
    have e4 : decide ((tt : Int) < (b2 : Int)) = false := decide_eq_false (by omega)
    have e5 : ((a : Int) + (b2 : Int) != (tt : Int)) = false := by simp; omega
    have hal : a ≤ 1024 := by omega
    have hat : a ≤ tt := by omega
    have hbt : b2 ≤ tt := by omega
    have htt0 : 0 < tt := by omega
    have hbl : b2 ≤ 1024 := by omega
    obtain ⟨w1, w2, w3, w4, w5, w6⟩ := used_kind hsm ht0
    rw [HKK.out] at w1 w2
    rw [HOO.out] at w3 w4
    obtain ⟨P, hP⟩ : ∃ P, decide (a = 0) = P := ⟨_, rfl⟩
    obtain ⟨Q, hQ⟩ : ∃ Q, decide (b2 = 0) = Q := ⟨_, rfl⟩
    rw [hP] at w1 w4 w5
    rw [hQ] at w2 w3 w6
    clear hP hQ hsm ht0
    cases P <;> cases Q
    · go_wp2_with fail
      refine (Works_calls _).mono ?_
      rintro e w' ⟨rfl, y, rfl⟩
      go_wp2
      go_ret
      exact ⟨rfl, Y11.step (y), rfl⟩
    · go_wp2_with fail
      refine (Works_calls _).mono ?_
      rintro e w' ⟨rfl, y, rfl⟩
      go_wp2
      go_ret
      exact ⟨rfl, Y11.step (y), rfl⟩
    · go_wp2_with fail
      refine (Works_calls _).mono ?_
      rintro e w' ⟨rfl, y, rfl⟩
      go_wp2
      go_ret
      exact ⟨rfl, Y11.step (y), rfl⟩
    · go_wp2_with fail
      refine (Works_calls _).mono ?_
      rintro e w' ⟨rfl, y, rfl⟩
      go_wp2
      go_ret
      exact ⟨rfl, Y11.step (y), rfl⟩
end Go.Proofs.Ytdhdpbnlhnodjaa
