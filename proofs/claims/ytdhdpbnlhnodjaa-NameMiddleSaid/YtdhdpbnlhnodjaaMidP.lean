import Derived.Test.YtdhdpbnlhnodjaaMidT
/-  NameMiddle. -/
namespace Go.Proofs.Ytdhdpbnlhnodjaa
open Go.RowKit
def allB (A1 A2 A3 : Bool) : Nat → Bool
  | 0 => true
  | 1 => A1
  | 2 => A1 && A2
  | _ => A1 && A2 && A3
theorem allB_end {A1 A2 A3 : Bool} (h : allB A1 A2 A3 3 = true) : A1 = true ∧ A2 = true ∧ A3 = true := by
  cases A1 <;> cases A2 <;> cases A3 <;> simp_all [allB]
def midL (n : Nat) (f : Nat → Int) (k : Nat) : List Int := (List.range n).map fun i => if i < k then f i else 0
theorem midL_zero (n : Nat) (f : Nat → Int) : midL n f 0 = List.replicate n 0 := by
  refine List.ext_getElem (by simp [midL]) fun i h1 h2 => by simp [midL]
theorem midL_set (n : Nat) (f : Nat → Int) {k : Nat} (_ : k < n) : (midL n f k).set k (f k) = midL n f (k + 1) := by
  refine List.ext_getElem (by simp [midL]) fun i h1 h2 => ?_
  rw [List.getElem_set]
  simp only [midL, List.getElem_map, List.getElem_range]
  by_cases h : k = i
  · rw [if_pos h, ← h, if_pos (by omega)]
  · rw [if_neg h]
    by_cases h3 : i < k
    · rw [if_pos h3, if_pos (by omega)]
    · rw [if_neg h3, if_neg (by omega)]
theorem midL_all (n : Nat) (f : Nat → Int) : midL n f n = (List.range n).map f := by
  refine List.map_congr_left fun i hi => if_pos (List.mem_range.1 hi)
theorem midL_len (n : Nat) (f : Nat → Int) (k : Nat) : (midL n f k).length = n := by simp [midL]
theorem midL_nth (n : Nat) (f : Nat → Int) {k : Nat} : ∃ v, nth (midL n f k) k = v := ⟨_, rfl⟩
set_option maxRecDepth 100000 in
set_option maxHeartbeats 8000000 in
theorem NameMiddle_calls (ni : Int) (mv cv : Value) (ms : List (Int × Int)) (cs : List Int) (b : Nat) (d1 : Nat) (d2 : Nat) (d3 : Nat) (W : World) (hs : Sht W mv cv ms cs) (_hb : b ≤ 65535) (hd1 : d1 ≤ 65535) (hd2 : d2 ≤ 65535) (hd3 : d3 ≤ 65535) :
    Calls Try.prog 9 #[.agg #[.int .i64 ni, mv, cv], .int .u16 (b : Int), .int .u16 (d1 : Int), .int .u16 (d2 : Int), .int .u16 (d3 : Int)] W (Gives (.bool true) W) := by
  have S : Ins W [] := Ins.nil _
  obtain ⟨am, lm, cm, rfl⟩ : ∃ a n c, mv = .slice a n c := by obtain ⟨a, c, e⟩ := hs.m.form; exact ⟨a, _, c, e⟩
  obtain ⟨ac, lc, cc, rfl⟩ : ∃ a n c, cv = .slice a n c := by obtain ⟨a, c, e⟩ := hs.c.form; exact ⟨a, _, c, e⟩
  by_cases hv : vsheet ni ms cs = 0
  rotate_left
  · have HF := Lib.hid (show fineB ni ms cs = false from decide_eq_false hv)
    clear hv
    go_enter Try.func9, Try.ntmps9
    go_wp2_with fail
    obtain ⟨B1, hb⟩ : ∃ b, b = W.heap.size := ⟨_, rfl⟩
    have l1 : Lin (W.alloc (.cells #[.int .i64 ni, .slice am lm cm, .slice ac lc cc] 25)) B1 25 [.int .i64 ni, .slice am lm cm, .slice ac lc cc] := by rw [hb]; exact Lin.new _ _ [.int .i64 ni, .slice am lm cm, .slice ac lc cc]
    replace S := S.later (Later.new _ (.cells #[.int .i64 ni, .slice am lm cm, .slice ac lc cc] 25))
    rw [Later.new_w] at S
    replace hs := hs.later (Later.new _ (.cells #[.int .i64 ni, .slice am lm cm, .slice ac lc cc] 25))
    rw [Later.new_w] at hs
    have hsz : (W.alloc (.cells #[.int .i64 ni, .slice am lm cm, .slice ac lc cc] 25)).heap.size = B1 + 1 := by rw [hb]; simp
    obtain ⟨Y2, hZ⟩ : ∃ Z : Later W, Z.w = W.alloc (.cells #[.int .i64 ni, .slice am lm cm, .slice ac lc cc] 25) := ⟨Later.new _ _, rfl⟩
    rw [← hZ] at S hsz hs l1 ⊢
    clear hZ
    rw [← hb]
    clear hb
    clear hsz
    refine (fine_calls ni _ _ ms cs _ hs).mono ?_
    rintro e w' ⟨rfl, y, rfl⟩
    rw [HF.out]
    replace hs := hs.later y
    replace l1 := l1.later y
    replace S := S.later y
    obtain ⟨Y3, hZ⟩ : ∃ Z : Later W, Z.w = y.w := ⟨Y2.step (y), rfl⟩
    rw [← hZ] at S hs l1 ⊢
    clear hZ
    clear y
    go_wp2_with fail
    refine (Works_calls _).mono ?_
    rintro e w' ⟨rfl, y, rfl⟩
    go_wp2
    go_ret
    exact ⟨rfl, Y3.step (y), rfl⟩
  obtain ⟨n, mn, cn, rfl, hms, hcs, hS⟩ := vsheet_nat hv
  have HF := Lib.hid (show fineB n ms cs = true from decide_eq_true hv)
  have HS := Lib.hid hS
  have HMS := Lib.hid hms
  have HCS := Lib.hid hcs
  have h1 := hS.n1
  have h10 := hS.n10
  have HML := Lib.hid (show lm = ms.length by obtain ⟨a, c, e⟩ := hs.m.form; cases e; rfl)
  have HCL := Lib.hid (show lc = cs.length by obtain ⟨a, c, e⟩ := hs.c.form; cases e; rfl)
  clear hv hms hcs hS
  obtain ⟨N, hNd⟩ : ∃ N, someN n b = N := ⟨_, rfl⟩
  have HN := Lib.hid (show Nms n N from hNd ▸ someN_nms n b)
  have HND := Lib.hid hNd
  clear hNd
  obtain ⟨nl, hnl⟩ : ∃ nl, N.length = nl := ⟨_, rfl⟩
  have HNL := Lib.hid hnl
  clear hnl
  have hnl10 : nl ≤ 10 := by rw [← HNL.out]; exact Nat.le_trans HN.out.len h10
  obtain ⟨A1, A2, A3, f1, f2, f3, f4, f5⟩ := middle_facts HS.out HN.out d1 d2 d3 HMS.out HCS.out
  obtain ⟨st1, hst⟩ : ∃ st, sideL n N d1 = st := ⟨_, rfl⟩
  have HL1 := Lib.hid (show n = st1.length by rw [← hst, sideL, Sat.setL_len])
  have HST1 := Lib.hid hst
  rw [hst] at f1 f5
  clear hst
  obtain ⟨st2, hst⟩ : ∃ st, sideL n N d2 = st := ⟨_, rfl⟩
  have HL2 := Lib.hid (show n = st2.length by rw [← hst, sideL, Sat.setL_len])
  have HST2 := Lib.hid hst
  rw [hst] at f2 f5
  clear hst
  obtain ⟨st3, hst⟩ : ∃ st, sideL n N d3 = st := ⟨_, rfl⟩
  have HL3 := Lib.hid (show n = st3.length by rw [← hst, sideL, Sat.setL_len])
  have HST3 := Lib.hid hst
  rw [hst] at f3 f5
  clear hst
  have F1 := Lib.hid f1
  have F2 := Lib.hid f2
  have F3 := Lib.hid f3
  have F4 := Lib.hid f4
  have F5 := Lib.hid f5
  clear f1 f2 f3 f4 f5
  go_enter Try.func9, Try.ntmps9
  go_wp2_with fail
  obtain ⟨B1, hb⟩ : ∃ b, b = W.heap.size := ⟨_, rfl⟩
  have l1 : Lin (W.alloc (.cells #[.int .i64 n, .slice am lm cm, .slice ac lc cc] 25)) B1 25 [.int .i64 n, .slice am lm cm, .slice ac lc cc] := by rw [hb]; exact Lin.new _ _ [.int .i64 n, .slice am lm cm, .slice ac lc cc]
  replace S := S.later (Later.new _ (.cells #[.int .i64 n, .slice am lm cm, .slice ac lc cc] 25))
  rw [Later.new_w] at S
  replace hs := hs.later (Later.new _ (.cells #[.int .i64 n, .slice am lm cm, .slice ac lc cc] 25))
  rw [Later.new_w] at hs
  have hsz : (W.alloc (.cells #[.int .i64 n, .slice am lm cm, .slice ac lc cc] 25)).heap.size = B1 + 1 := by rw [hb]; simp
  obtain ⟨Y2, hZ⟩ : ∃ Z : Later W, Z.w = W.alloc (.cells #[.int .i64 n, .slice am lm cm, .slice ac lc cc] 25) := ⟨Later.new _ _, rfl⟩
  rw [← hZ] at S hsz hs l1 ⊢
  clear hZ
  rw [← hb]
  clear hb
  clear hsz
  refine (fine_calls n _ _ ms cs _ hs).mono ?_
  rintro e w' ⟨rfl, y, rfl⟩
  rw [HF.out]
  replace hs := hs.later y
  replace l1 := l1.later y
  replace S := S.later y
  obtain ⟨Y3, hZ⟩ : ∃ Z : Later W, Z.w = y.w := ⟨Y2.step (y), rfl⟩
  rw [← hZ] at S hs l1 ⊢
  clear hZ
  clear y
  have q0_0 := l1.cell (k := 0) rfl
  have q0_1 := l1.cell (k := 1) rfl
  have q0_2 := l1.cell (k := 2) rfl
  have q0_l := l1.lt
  go_wp2_with fail
  clear q0_0 q0_1 q0_2 q0_l
  refine (Some_calls n b _ _ ms cs h10 _ hs).mono ?_
  rintro e w' ⟨v, y, rfl, rfl, hR⟩
  rw [HND.out] at hR
  replace hs := hs.later y
  replace l1 := l1.later y
  replace S := S.later y
  obtain ⟨a4, n4, c4, rfl⟩ : ∃ a n c, v = .slice a n c := by obtain ⟨a, c, e⟩ := hR.form; exact ⟨a, _, c, e⟩
  replace S := S.cons hR
  obtain ⟨Y5, hZ⟩ : ∃ Z : Later W, Z.w = y.w := ⟨Y3.step (y), rfl⟩
  rw [← hZ] at S hs l1 ⊢
  clear hZ
  clear y hR
  obtain rfl : nl = n4 := by obtain ⟨a, c, e⟩ := (S.at (v := .slice a4 n4 c4) (xs := (natV N)) (by simp)).form; cases e; exact (by rw [natV_len, HNL.out])
  have q0_0 := l1.cell (k := 0) rfl
  have q0_1 := l1.cell (k := 1) rfl
  have q0_2 := l1.cell (k := 2) rfl
  have q0_l := l1.lt
  go_wp2
  refine Mix.region_mixL (Mix.kinds [12] [3, 7, 11] []) (by kernel_rfl) (by kernel_rfl) ?_
  repeat ((with_reducible refine Mix.atCons ?_); first | refine Mix.skipU (by rfl) rfl (by rfl) ?_ | (refine Mix.val rfl rfl (by rfl) (fun K hK => ?_); go_big_quiet_op; refine hK _ ?_; clear hK K) | (refine Mix.skip (by rfl) ?_; go_frame))
  refine Mix.loud rfl (by rfl) (fun x1 K hK => ?_)
  go_wp2_with fail
  refine (sides_calls n d1 _ _ _ ms cs N HN.out h10 hd1 _ (hs.later x1) ((S.at (v := .slice a4 nl c4) (xs := (natV N)) (by simp)).later x1)).mono ?_
  rintro e w' ⟨v, y1, rfl, rfl, hR1⟩
  rw [HST1.out] at hR1
  obtain ⟨ax1, nx1, cx1, rfl⟩ : ∃ a n c, v = .slice a n c := by obtain ⟨a, c, e⟩ := hR1.form; exact ⟨a, _, c, e⟩
  obtain rfl : n = nx1 := by obtain ⟨a, c, e⟩ := hR1.form; cases e; exact HL1.out
  refine hK _ y1 ?_
  clear hK K
  try go_frame
  repeat ((with_reducible refine Mix.atCons ?_); first | refine Mix.skipU (by rfl) rfl (by rfl) ?_ | (refine Mix.val rfl rfl (by rfl) (fun K hK => ?_); go_big_quiet_op; refine hK _ ?_; clear hK K) | (refine Mix.skip (by rfl) ?_; go_frame))
  refine Mix.loud rfl (by rfl) (fun x2 K hK => ?_)
  go_wp2_with fail
  refine (sides_calls n d2 _ _ _ ms cs N HN.out h10 hd2 _ (((hs.later x1).later y1).later x2) ((((S.at (v := .slice a4 nl c4) (xs := (natV N)) (by simp)).later x1).later y1).later x2)).mono ?_
  rintro e w' ⟨v, y2, rfl, rfl, hR2⟩
  rw [HST2.out] at hR2
  obtain ⟨ax2, nx2, cx2, rfl⟩ : ∃ a n c, v = .slice a n c := by obtain ⟨a, c, e⟩ := hR2.form; exact ⟨a, _, c, e⟩
  obtain rfl : n = nx2 := by obtain ⟨a, c, e⟩ := hR2.form; cases e; exact HL2.out
  refine hK _ y2 ?_
  clear hK K
  try go_frame
  repeat ((with_reducible refine Mix.atCons ?_); first | refine Mix.skipU (by rfl) rfl (by rfl) ?_ | (refine Mix.val rfl rfl (by rfl) (fun K hK => ?_); go_big_quiet_op; refine hK _ ?_; clear hK K) | (refine Mix.skip (by rfl) ?_; go_frame))
  refine Mix.loud rfl (by rfl) (fun x3 K hK => ?_)
  go_wp2_with fail
  refine (sides_calls n d3 _ _ _ ms cs N HN.out h10 hd3 _ (((((hs.later x1).later y1).later x2).later y2).later x3) ((((((S.at (v := .slice a4 nl c4) (xs := (natV N)) (by simp)).later x1).later y1).later x2).later y2).later x3)).mono ?_
  rintro e w' ⟨v, y3, rfl, rfl, hR3⟩
  rw [HST3.out] at hR3
  obtain ⟨ax3, nx3, cx3, rfl⟩ : ∃ a n c, v = .slice a n c := by obtain ⟨a, c, e⟩ := hR3.form; exact ⟨a, _, c, e⟩
  obtain rfl : n = nx3 := by obtain ⟨a, c, e⟩ := hR3.form; cases e; exact HL3.out
  refine hK _ y3 ?_
  clear hK K
  try go_frame
  repeat ((with_reducible refine Mix.atCons ?_); first | refine Mix.skipU (by rfl) rfl (by rfl) ?_ | (refine Mix.val rfl rfl (by rfl) (fun K hK => ?_); go_big_quiet_op; refine hK _ ?_; clear hK K) | (refine Mix.skip (by rfl) ?_; go_frame))
  refine Mix.new rfl (by rfl) (fun b => .slice (some ⟨b, 0, none⟩) 3 3) (.cells #[.slice ax1 n cx1, .slice ax2 n cx2, .slice ax3 n cx3] 23) (fun w => by simp [go_sem]) (fun E x9 _ hx9 => ?_)
  have lE : Lin x9.w E 23 [.slice ax1 n cx1, .slice ax2 n cx2, .slice ax3 n cx3] := hx9
  clear hx9
  try go_frame
  repeat ((with_reducible refine Mix.atCons ?_); first | refine Mix.skipU (by rfl) rfl (by rfl) ?_ | (refine Mix.val rfl rfl (by rfl) (fun K hK => ?_); go_big_quiet_op; refine hK _ ?_; clear hK K) | (refine Mix.skip (by rfl) ?_; go_frame))
  refine Mix.done (fun x4 => ?_)
  clear q0_0 q0_1 q0_2 q0_l
  replace hs := ((((((((hs.later x1).later y1).later x2).later y2).later x3).later y3).later x9).later x4)
  replace l1 := ((((((((l1.later x1).later y1).later x2).later y2).later x3).later y3).later x9).later x4)
  replace S := ((((((((S.later x1).later y1).later x2).later y2).later x3).later y3).later x9).later x4)
  replace lE := (lE.later x4)
  replace hR1 := ((((((hR1.later x2).later y2).later x3).later y3).later x9).later x4)
  replace S := S.cons hR1
  replace hR2 := ((((hR2.later x3).later y3).later x9).later x4)
  replace S := S.cons hR2
  replace hR3 := ((hR3.later x9).later x4)
  replace S := S.cons hR3
  obtain ⟨Y6, hZ⟩ : ∃ Z : Later W, Z.w = x4.w := ⟨Y5.step (x1.step (y1.step (x2.step (y2.step (x3.step (y3.step (x9.step (x4)))))))), rfl⟩
  rw [← hZ] at S hs l1 lE ⊢
  clear hZ
  go_wp2
  go_loopw [13, 14, 15, 16] (fun al i0 _ _ wr => ∃ (k : Nat) (u : Later Y6.w), wr = u.w ∧ k ≤ 3 ∧ i0 = .int .i64 k ∧ al = .bool (allB A1 A2 A3 k)) (fun _ i0 _ _ _ => 3 - (intOf i0).toNat)
  case atStart => exact ⟨0, Later.self _, rfl, Nat.zero_le _, rfl, rfl⟩
  obtain ⟨k, u, rfl, hk, rfl, rfl⟩ := hrel
  replace hs := hs.later u
  replace l1 := l1.later u
  replace lE := lE.later u
  replace S := S.later u
  by_cases hlt : k < 3
  · clear hk
    obtain rfl | rfl | rfl : k = 0 ∨ k = 1 ∨ k = 2 := by omega
    · clear hlt
      have hnx : allB A1 A2 A3 1 = (allB A1 A2 A3 0 && A1) := rfl
      obtain ⟨P, hP⟩ : ∃ P, allB A1 A2 A3 0 = P := ⟨_, rfl⟩
      rw [hP] at hnx ⊢
      clear hP
      have HNX := Lib.hid hnx
      clear hnx
      obtain ⟨fe, fr⟩ := F1.out
      clear F1 F2 F3 F5
      cases A1
      · have HE := Lib.hid (fe.trans (if_neg (by decide)))
        have HR := Lib.hid fr
        clear fe fr
        cases P
        · have q0_0 := l1.cell (k := 0) rfl
          have q0_1 := l1.cell (k := 1) rfl
          have q0_2 := l1.cell (k := 2) rfl
          have q0_l := l1.lt
          have q1_0 := lE.cell (k := 0) rfl
          have q1_1 := lE.cell (k := 1) rfl
          have q1_2 := lE.cell (k := 2) rfl
          have q1_l := lE.lt
          go_wp2
          refine Mix.region_mixL (Mix.kinds [] [5] []) (by kernel_rfl) (by kernel_rfl) ?_
          repeat ((with_reducible refine Mix.atCons ?_); first | refine Mix.skipU (by rfl) rfl (by rfl) ?_ | (refine Mix.val rfl rfl (by rfl) (fun K hK => ?_); go_big_quiet_op; refine hK _ ?_; clear hK K) | (refine Mix.skip (by rfl) ?_; go_frame))
          refine Mix.loud rfl (by rfl) (fun x1 K hK => ?_)
          go_wp2_with fail
          refine (CheckSetting_any n _ _ ms cs _ (hs.later x1) _ st1 ((S.at (v := .slice ax1 n cx1) (xs := st1) (by simp)).later x1)).mono ?_
          rintro e w' ⟨rfl, y1, rfl⟩
          rw [HE.out]
          refine hK _ y1 ?_
          clear hK K
          try go_frame
          repeat ((with_reducible refine Mix.atCons ?_); first | refine Mix.skipU (by rfl) rfl (by rfl) ?_ | (refine Mix.val rfl rfl (by rfl) (fun K hK => ?_); go_big_quiet_op; refine hK _ ?_; clear hK K) | (refine Mix.skip (by rfl) ?_; go_frame))
          refine Mix.done (fun x2 => ?_)
          clear q0_0 q0_1 q0_2 q0_l
          clear q1_0 q1_1 q1_2 q1_l
          replace hs := (((hs.later x1).later y1).later x2)
          replace l1 := (((l1.later x1).later y1).later x2)
          replace lE := (((lE.later x1).later y1).later x2)
          replace S := (((S.later x1).later y1).later x2)
          obtain ⟨Y7, hZ⟩ : ∃ Z : Later Y6.w, Z.w = x2.w := ⟨u.step (x1.step (y1.step (x2))), rfl⟩
          rw [← hZ] at S hs l1 lE ⊢
          clear hZ
          have q0_0 := l1.cell (k := 0) rfl
          have q0_1 := l1.cell (k := 1) rfl
          have q0_2 := l1.cell (k := 2) rfl
          have q0_l := l1.lt
          have q1_0 := lE.cell (k := 0) rfl
          have q1_1 := lE.cell (k := 1) rfl
          have q1_2 := lE.cell (k := 2) rfl
          have q1_l := lE.lt
          go_wp2
          refine Mix.region_mixL (Mix.kinds [] [14] []) (by kernel_rfl) (by kernel_rfl) ?_
          repeat ((with_reducible refine Mix.atCons ?_); first | refine Mix.skipU (by rfl) rfl (by rfl) ?_ | (refine Mix.val rfl rfl (by rfl) (fun K hK => ?_); go_big_quiet_op; refine hK _ ?_; clear hK K) | (refine Mix.skip (by rfl) ?_; go_frame))
          refine Mix.loud rfl (by rfl) (fun x1 K hK => ?_)
          go_wp2_with fail
          refine (IsRight_calls n _ _ _ ms cs st1 _ (hs.later x1) ((S.at (v := .slice ax1 n cx1) (xs := st1) (by simp)).later x1) F4.out (by rw [← HL1.out])).mono ?_
          rintro e w' ⟨rfl, y1, rfl⟩
          rw [HR.out]
          refine hK _ y1 ?_
          clear hK K
          try go_frame
          repeat ((with_reducible refine Mix.atCons ?_); first | refine Mix.skipU (by rfl) rfl (by rfl) ?_ | (refine Mix.val rfl rfl (by rfl) (fun K hK => ?_); go_big_quiet_op; refine hK _ ?_; clear hK K) | (refine Mix.skip (by rfl) ?_; go_frame))
          refine Mix.done (fun x2 => ?_)
          clear q0_0 q0_1 q0_2 q0_l
          clear q1_0 q1_1 q1_2 q1_l
          replace hs := (((hs.later x1).later y1).later x2)
          replace l1 := (((l1.later x1).later y1).later x2)
          replace lE := (((lE.later x1).later y1).later x2)
          replace S := (((S.later x1).later y1).later x2)
          obtain ⟨Y8, hZ⟩ : ∃ Z : Later Y6.w, Z.w = x2.w := ⟨Y7.step (x1.step (y1.step (x2))), rfl⟩
          rw [← hZ] at S hs l1 lE ⊢
          clear hZ
          go_wp2
          go_roundw
          case rel => first | exact ⟨1, Y8, rfl, by omega, by go_num, by rw [HNX.out]; rfl⟩ | ((repeat apply Exists.intro); exact ⟨⟨1, Y8, rfl, by omega, by go_num, by rw [HNX.out]; rfl⟩, rfl⟩)
          case measure => simp [intOf]
        · have q0_0 := l1.cell (k := 0) rfl
          have q0_1 := l1.cell (k := 1) rfl
          have q0_2 := l1.cell (k := 2) rfl
          have q0_l := l1.lt
          have q1_0 := lE.cell (k := 0) rfl
          have q1_1 := lE.cell (k := 1) rfl
          have q1_2 := lE.cell (k := 2) rfl
          have q1_l := lE.lt
          go_wp2
          refine Mix.region_mixL (Mix.kinds [] [5] []) (by kernel_rfl) (by kernel_rfl) ?_
          repeat ((with_reducible refine Mix.atCons ?_); first | refine Mix.skipU (by rfl) rfl (by rfl) ?_ | (refine Mix.val rfl rfl (by rfl) (fun K hK => ?_); go_big_quiet_op; refine hK _ ?_; clear hK K) | (refine Mix.skip (by rfl) ?_; go_frame))
          refine Mix.loud rfl (by rfl) (fun x1 K hK => ?_)
          go_wp2_with fail
          refine (CheckSetting_any n _ _ ms cs _ (hs.later x1) _ st1 ((S.at (v := .slice ax1 n cx1) (xs := st1) (by simp)).later x1)).mono ?_
          rintro e w' ⟨rfl, y1, rfl⟩
          rw [HE.out]
          refine hK _ y1 ?_
          clear hK K
          try go_frame
          repeat ((with_reducible refine Mix.atCons ?_); first | refine Mix.skipU (by rfl) rfl (by rfl) ?_ | (refine Mix.val rfl rfl (by rfl) (fun K hK => ?_); go_big_quiet_op; refine hK _ ?_; clear hK K) | (refine Mix.skip (by rfl) ?_; go_frame))
          refine Mix.done (fun x2 => ?_)
          clear q0_0 q0_1 q0_2 q0_l
          clear q1_0 q1_1 q1_2 q1_l
          replace hs := (((hs.later x1).later y1).later x2)
          replace l1 := (((l1.later x1).later y1).later x2)
          replace lE := (((lE.later x1).later y1).later x2)
          replace S := (((S.later x1).later y1).later x2)
          obtain ⟨Y7, hZ⟩ : ∃ Z : Later Y6.w, Z.w = x2.w := ⟨u.step (x1.step (y1.step (x2))), rfl⟩
          rw [← hZ] at S hs l1 lE ⊢
          clear hZ
          have q0_0 := l1.cell (k := 0) rfl
          have q0_1 := l1.cell (k := 1) rfl
          have q0_2 := l1.cell (k := 2) rfl
          have q0_l := l1.lt
          have q1_0 := lE.cell (k := 0) rfl
          have q1_1 := lE.cell (k := 1) rfl
          have q1_2 := lE.cell (k := 2) rfl
          have q1_l := lE.lt
          go_wp2
          refine Mix.region_mixL (Mix.kinds [] [14] []) (by kernel_rfl) (by kernel_rfl) ?_
          repeat ((with_reducible refine Mix.atCons ?_); first | refine Mix.skipU (by rfl) rfl (by rfl) ?_ | (refine Mix.val rfl rfl (by rfl) (fun K hK => ?_); go_big_quiet_op; refine hK _ ?_; clear hK K) | (refine Mix.skip (by rfl) ?_; go_frame))
          refine Mix.loud rfl (by rfl) (fun x1 K hK => ?_)
          go_wp2_with fail
          refine (IsRight_calls n _ _ _ ms cs st1 _ (hs.later x1) ((S.at (v := .slice ax1 n cx1) (xs := st1) (by simp)).later x1) F4.out (by rw [← HL1.out])).mono ?_
          rintro e w' ⟨rfl, y1, rfl⟩
          rw [HR.out]
          refine hK _ y1 ?_
          clear hK K
          try go_frame
          repeat ((with_reducible refine Mix.atCons ?_); first | refine Mix.skipU (by rfl) rfl (by rfl) ?_ | (refine Mix.val rfl rfl (by rfl) (fun K hK => ?_); go_big_quiet_op; refine hK _ ?_; clear hK K) | (refine Mix.skip (by rfl) ?_; go_frame))
          refine Mix.done (fun x2 => ?_)
          clear q0_0 q0_1 q0_2 q0_l
          clear q1_0 q1_1 q1_2 q1_l
          replace hs := (((hs.later x1).later y1).later x2)
          replace l1 := (((l1.later x1).later y1).later x2)
          replace lE := (((lE.later x1).later y1).later x2)
          replace S := (((S.later x1).later y1).later x2)
          obtain ⟨Y8, hZ⟩ : ∃ Z : Later Y6.w, Z.w = x2.w := ⟨Y7.step (x1.step (y1.step (x2))), rfl⟩
          rw [← hZ] at S hs l1 lE ⊢
          clear hZ
          go_wp2
          go_roundw
          case rel => first | exact ⟨1, Y8, rfl, by omega, by go_num, by rw [HNX.out]; rfl⟩ | ((repeat apply Exists.intro); exact ⟨⟨1, Y8, rfl, by omega, by go_num, by rw [HNX.out]; rfl⟩, rfl⟩)
          case measure => simp [intOf]
      · have HE := Lib.hid (fe.trans (if_pos rfl))
        have HR := Lib.hid fr
        clear fe fr
        cases P
        · have q0_0 := l1.cell (k := 0) rfl
          have q0_1 := l1.cell (k := 1) rfl
          have q0_2 := l1.cell (k := 2) rfl
          have q0_l := l1.lt
          have q1_0 := lE.cell (k := 0) rfl
          have q1_1 := lE.cell (k := 1) rfl
          have q1_2 := lE.cell (k := 2) rfl
          have q1_l := lE.lt
          go_wp2
          refine Mix.region_mixL (Mix.kinds [] [5] []) (by kernel_rfl) (by kernel_rfl) ?_
          repeat ((with_reducible refine Mix.atCons ?_); first | refine Mix.skipU (by rfl) rfl (by rfl) ?_ | (refine Mix.val rfl rfl (by rfl) (fun K hK => ?_); go_big_quiet_op; refine hK _ ?_; clear hK K) | (refine Mix.skip (by rfl) ?_; go_frame))
          refine Mix.loud rfl (by rfl) (fun x1 K hK => ?_)
          go_wp2_with fail
          refine (CheckSetting_any n _ _ ms cs _ (hs.later x1) _ st1 ((S.at (v := .slice ax1 n cx1) (xs := st1) (by simp)).later x1)).mono ?_
          rintro e w' ⟨rfl, y1, rfl⟩
          rw [HE.out]
          refine hK _ y1 ?_
          clear hK K
          try go_frame
          repeat ((with_reducible refine Mix.atCons ?_); first | refine Mix.skipU (by rfl) rfl (by rfl) ?_ | (refine Mix.val rfl rfl (by rfl) (fun K hK => ?_); go_big_quiet_op; refine hK _ ?_; clear hK K) | (refine Mix.skip (by rfl) ?_; go_frame))
          refine Mix.done (fun x2 => ?_)
          clear q0_0 q0_1 q0_2 q0_l
          clear q1_0 q1_1 q1_2 q1_l
          replace hs := (((hs.later x1).later y1).later x2)
          replace l1 := (((l1.later x1).later y1).later x2)
          replace lE := (((lE.later x1).later y1).later x2)
          replace S := (((S.later x1).later y1).later x2)
          obtain ⟨Y7, hZ⟩ : ∃ Z : Later Y6.w, Z.w = x2.w := ⟨u.step (x1.step (y1.step (x2))), rfl⟩
          rw [← hZ] at S hs l1 lE ⊢
          clear hZ
          have q0_0 := l1.cell (k := 0) rfl
          have q0_1 := l1.cell (k := 1) rfl
          have q0_2 := l1.cell (k := 2) rfl
          have q0_l := l1.lt
          have q1_0 := lE.cell (k := 0) rfl
          have q1_1 := lE.cell (k := 1) rfl
          have q1_2 := lE.cell (k := 2) rfl
          have q1_l := lE.lt
          go_wp2
          refine Mix.region_mixL (Mix.kinds [] [14] []) (by kernel_rfl) (by kernel_rfl) ?_
          repeat ((with_reducible refine Mix.atCons ?_); first | refine Mix.skipU (by rfl) rfl (by rfl) ?_ | (refine Mix.val rfl rfl (by rfl) (fun K hK => ?_); go_big_quiet_op; refine hK _ ?_; clear hK K) | (refine Mix.skip (by rfl) ?_; go_frame))
          refine Mix.loud rfl (by rfl) (fun x1 K hK => ?_)
          go_wp2_with fail
          refine (IsRight_calls n _ _ _ ms cs st1 _ (hs.later x1) ((S.at (v := .slice ax1 n cx1) (xs := st1) (by simp)).later x1) F4.out (by rw [← HL1.out])).mono ?_
          rintro e w' ⟨rfl, y1, rfl⟩
          rw [HR.out]
          refine hK _ y1 ?_
          clear hK K
          try go_frame
          repeat ((with_reducible refine Mix.atCons ?_); first | refine Mix.skipU (by rfl) rfl (by rfl) ?_ | (refine Mix.val rfl rfl (by rfl) (fun K hK => ?_); go_big_quiet_op; refine hK _ ?_; clear hK K) | (refine Mix.skip (by rfl) ?_; go_frame))
          refine Mix.done (fun x2 => ?_)
          clear q0_0 q0_1 q0_2 q0_l
          clear q1_0 q1_1 q1_2 q1_l
          replace hs := (((hs.later x1).later y1).later x2)
          replace l1 := (((l1.later x1).later y1).later x2)
          replace lE := (((lE.later x1).later y1).later x2)
          replace S := (((S.later x1).later y1).later x2)
          obtain ⟨Y8, hZ⟩ : ∃ Z : Later Y6.w, Z.w = x2.w := ⟨Y7.step (x1.step (y1.step (x2))), rfl⟩
          rw [← hZ] at S hs l1 lE ⊢
          clear hZ
          go_wp2
          go_roundw
          case rel => first | exact ⟨1, Y8, rfl, by omega, by go_num, by rw [HNX.out]; rfl⟩ | ((repeat apply Exists.intro); exact ⟨⟨1, Y8, rfl, by omega, by go_num, by rw [HNX.out]; rfl⟩, rfl⟩)
          case measure => simp [intOf]
        · have q0_0 := l1.cell (k := 0) rfl
          have q0_1 := l1.cell (k := 1) rfl
          have q0_2 := l1.cell (k := 2) rfl
          have q0_l := l1.lt
          have q1_0 := lE.cell (k := 0) rfl
          have q1_1 := lE.cell (k := 1) rfl
          have q1_2 := lE.cell (k := 2) rfl
          have q1_l := lE.lt
          go_wp2
          refine Mix.region_mixL (Mix.kinds [] [5] []) (by kernel_rfl) (by kernel_rfl) ?_
          repeat ((with_reducible refine Mix.atCons ?_); first | refine Mix.skipU (by rfl) rfl (by rfl) ?_ | (refine Mix.val rfl rfl (by rfl) (fun K hK => ?_); go_big_quiet_op; refine hK _ ?_; clear hK K) | (refine Mix.skip (by rfl) ?_; go_frame))
          refine Mix.loud rfl (by rfl) (fun x1 K hK => ?_)
          go_wp2_with fail
          refine (CheckSetting_any n _ _ ms cs _ (hs.later x1) _ st1 ((S.at (v := .slice ax1 n cx1) (xs := st1) (by simp)).later x1)).mono ?_
          rintro e w' ⟨rfl, y1, rfl⟩
          rw [HE.out]
          refine hK _ y1 ?_
          clear hK K
          try go_frame
          repeat ((with_reducible refine Mix.atCons ?_); first | refine Mix.skipU (by rfl) rfl (by rfl) ?_ | (refine Mix.val rfl rfl (by rfl) (fun K hK => ?_); go_big_quiet_op; refine hK _ ?_; clear hK K) | (refine Mix.skip (by rfl) ?_; go_frame))
          refine Mix.done (fun x2 => ?_)
          clear q0_0 q0_1 q0_2 q0_l
          clear q1_0 q1_1 q1_2 q1_l
          replace hs := (((hs.later x1).later y1).later x2)
          replace l1 := (((l1.later x1).later y1).later x2)
          replace lE := (((lE.later x1).later y1).later x2)
          replace S := (((S.later x1).later y1).later x2)
          obtain ⟨Y7, hZ⟩ : ∃ Z : Later Y6.w, Z.w = x2.w := ⟨u.step (x1.step (y1.step (x2))), rfl⟩
          rw [← hZ] at S hs l1 lE ⊢
          clear hZ
          have q0_0 := l1.cell (k := 0) rfl
          have q0_1 := l1.cell (k := 1) rfl
          have q0_2 := l1.cell (k := 2) rfl
          have q0_l := l1.lt
          have q1_0 := lE.cell (k := 0) rfl
          have q1_1 := lE.cell (k := 1) rfl
          have q1_2 := lE.cell (k := 2) rfl
          have q1_l := lE.lt
          go_wp2
          refine Mix.region_mixL (Mix.kinds [] [14] []) (by kernel_rfl) (by kernel_rfl) ?_
          repeat ((with_reducible refine Mix.atCons ?_); first | refine Mix.skipU (by rfl) rfl (by rfl) ?_ | (refine Mix.val rfl rfl (by rfl) (fun K hK => ?_); go_big_quiet_op; refine hK _ ?_; clear hK K) | (refine Mix.skip (by rfl) ?_; go_frame))
          refine Mix.loud rfl (by rfl) (fun x1 K hK => ?_)
          go_wp2_with fail
          refine (IsRight_calls n _ _ _ ms cs st1 _ (hs.later x1) ((S.at (v := .slice ax1 n cx1) (xs := st1) (by simp)).later x1) F4.out (by rw [← HL1.out])).mono ?_
          rintro e w' ⟨rfl, y1, rfl⟩
          rw [HR.out]
          refine hK _ y1 ?_
          clear hK K
          try go_frame
          repeat ((with_reducible refine Mix.atCons ?_); first | refine Mix.skipU (by rfl) rfl (by rfl) ?_ | (refine Mix.val rfl rfl (by rfl) (fun K hK => ?_); go_big_quiet_op; refine hK _ ?_; clear hK K) | (refine Mix.skip (by rfl) ?_; go_frame))
          refine Mix.done (fun x2 => ?_)
          clear q0_0 q0_1 q0_2 q0_l
          clear q1_0 q1_1 q1_2 q1_l
          replace hs := (((hs.later x1).later y1).later x2)
          replace l1 := (((l1.later x1).later y1).later x2)
          replace lE := (((lE.later x1).later y1).later x2)
          replace S := (((S.later x1).later y1).later x2)
          obtain ⟨Y8, hZ⟩ : ∃ Z : Later Y6.w, Z.w = x2.w := ⟨Y7.step (x1.step (y1.step (x2))), rfl⟩
          rw [← hZ] at S hs l1 lE ⊢
          clear hZ
          go_wp2
          go_roundw
          case rel => first | exact ⟨1, Y8, rfl, by omega, by go_num, by rw [HNX.out]; rfl⟩ | ((repeat apply Exists.intro); exact ⟨⟨1, Y8, rfl, by omega, by go_num, by rw [HNX.out]; rfl⟩, rfl⟩)
          case measure => simp [intOf]
    · clear hlt
      have hnx : allB A1 A2 A3 2 = (allB A1 A2 A3 1 && A2) := rfl
      obtain ⟨P, hP⟩ : ∃ P, allB A1 A2 A3 1 = P := ⟨_, rfl⟩
      rw [hP] at hnx ⊢
      clear hP
      have HNX := Lib.hid hnx
      clear hnx
      obtain ⟨fe, fr⟩ := F2.out
      clear F1 F2 F3 F5
      cases A2
      · have HE := Lib.hid (fe.trans (if_neg (by decide)))
        have HR := Lib.hid fr
        clear fe fr
        cases P
        · have q0_0 := l1.cell (k := 0) rfl
          have q0_1 := l1.cell (k := 1) rfl
          have q0_2 := l1.cell (k := 2) rfl
          have q0_l := l1.lt
          have q1_0 := lE.cell (k := 0) rfl
          have q1_1 := lE.cell (k := 1) rfl
          have q1_2 := lE.cell (k := 2) rfl
          have q1_l := lE.lt
          go_wp2
          refine Mix.region_mixL (Mix.kinds [] [5] []) (by kernel_rfl) (by kernel_rfl) ?_
          repeat ((with_reducible refine Mix.atCons ?_); first | refine Mix.skipU (by rfl) rfl (by rfl) ?_ | (refine Mix.val rfl rfl (by rfl) (fun K hK => ?_); go_big_quiet_op; refine hK _ ?_; clear hK K) | (refine Mix.skip (by rfl) ?_; go_frame))
          refine Mix.loud rfl (by rfl) (fun x1 K hK => ?_)
          go_wp2_with fail
          refine (CheckSetting_any n _ _ ms cs _ (hs.later x1) _ st2 ((S.at (v := .slice ax2 n cx2) (xs := st2) (by simp)).later x1)).mono ?_
          rintro e w' ⟨rfl, y1, rfl⟩
          rw [HE.out]
          refine hK _ y1 ?_
          clear hK K
          try go_frame
          repeat ((with_reducible refine Mix.atCons ?_); first | refine Mix.skipU (by rfl) rfl (by rfl) ?_ | (refine Mix.val rfl rfl (by rfl) (fun K hK => ?_); go_big_quiet_op; refine hK _ ?_; clear hK K) | (refine Mix.skip (by rfl) ?_; go_frame))
          refine Mix.done (fun x2 => ?_)
          clear q0_0 q0_1 q0_2 q0_l
          clear q1_0 q1_1 q1_2 q1_l
          replace hs := (((hs.later x1).later y1).later x2)
          replace l1 := (((l1.later x1).later y1).later x2)
          replace lE := (((lE.later x1).later y1).later x2)
          replace S := (((S.later x1).later y1).later x2)
          obtain ⟨Y7, hZ⟩ : ∃ Z : Later Y6.w, Z.w = x2.w := ⟨u.step (x1.step (y1.step (x2))), rfl⟩
          rw [← hZ] at S hs l1 lE ⊢
          clear hZ
          have q0_0 := l1.cell (k := 0) rfl
          have q0_1 := l1.cell (k := 1) rfl
          have q0_2 := l1.cell (k := 2) rfl
          have q0_l := l1.lt
          have q1_0 := lE.cell (k := 0) rfl
          have q1_1 := lE.cell (k := 1) rfl
          have q1_2 := lE.cell (k := 2) rfl
          have q1_l := lE.lt
          go_wp2
          refine Mix.region_mixL (Mix.kinds [] [14] []) (by kernel_rfl) (by kernel_rfl) ?_
          repeat ((with_reducible refine Mix.atCons ?_); first | refine Mix.skipU (by rfl) rfl (by rfl) ?_ | (refine Mix.val rfl rfl (by rfl) (fun K hK => ?_); go_big_quiet_op; refine hK _ ?_; clear hK K) | (refine Mix.skip (by rfl) ?_; go_frame))
          refine Mix.loud rfl (by rfl) (fun x1 K hK => ?_)
          go_wp2_with fail
          refine (IsRight_calls n _ _ _ ms cs st2 _ (hs.later x1) ((S.at (v := .slice ax2 n cx2) (xs := st2) (by simp)).later x1) F4.out (by rw [← HL2.out])).mono ?_
          rintro e w' ⟨rfl, y1, rfl⟩
          rw [HR.out]
          refine hK _ y1 ?_
          clear hK K
          try go_frame
          repeat ((with_reducible refine Mix.atCons ?_); first | refine Mix.skipU (by rfl) rfl (by rfl) ?_ | (refine Mix.val rfl rfl (by rfl) (fun K hK => ?_); go_big_quiet_op; refine hK _ ?_; clear hK K) | (refine Mix.skip (by rfl) ?_; go_frame))
          refine Mix.done (fun x2 => ?_)
          clear q0_0 q0_1 q0_2 q0_l
          clear q1_0 q1_1 q1_2 q1_l
          replace hs := (((hs.later x1).later y1).later x2)
          replace l1 := (((l1.later x1).later y1).later x2)
          replace lE := (((lE.later x1).later y1).later x2)
          replace S := (((S.later x1).later y1).later x2)
          obtain ⟨Y8, hZ⟩ : ∃ Z : Later Y6.w, Z.w = x2.w := ⟨Y7.step (x1.step (y1.step (x2))), rfl⟩
          rw [← hZ] at S hs l1 lE ⊢
          clear hZ
          go_wp2
          go_roundw
          case rel => first | exact ⟨2, Y8, rfl, by omega, by go_num, by rw [HNX.out]; rfl⟩ | ((repeat apply Exists.intro); exact ⟨⟨2, Y8, rfl, by omega, by go_num, by rw [HNX.out]; rfl⟩, rfl⟩)
          case measure => simp [intOf]
        · have q0_0 := l1.cell (k := 0) rfl
          have q0_1 := l1.cell (k := 1) rfl
          have q0_2 := l1.cell (k := 2) rfl
          have q0_l := l1.lt
          have q1_0 := lE.cell (k := 0) rfl
          have q1_1 := lE.cell (k := 1) rfl
          have q1_2 := lE.cell (k := 2) rfl
          have q1_l := lE.lt
          go_wp2
          refine Mix.region_mixL (Mix.kinds [] [5] []) (by kernel_rfl) (by kernel_rfl) ?_
          repeat ((with_reducible refine Mix.atCons ?_); first | refine Mix.skipU (by rfl) rfl (by rfl) ?_ | (refine Mix.val rfl rfl (by rfl) (fun K hK => ?_); go_big_quiet_op; refine hK _ ?_; clear hK K) | (refine Mix.skip (by rfl) ?_; go_frame))
          refine Mix.loud rfl (by rfl) (fun x1 K hK => ?_)
          go_wp2_with fail
          refine (CheckSetting_any n _ _ ms cs _ (hs.later x1) _ st2 ((S.at (v := .slice ax2 n cx2) (xs := st2) (by simp)).later x1)).mono ?_
          rintro e w' ⟨rfl, y1, rfl⟩
          rw [HE.out]
          refine hK _ y1 ?_
          clear hK K
          try go_frame
          repeat ((with_reducible refine Mix.atCons ?_); first | refine Mix.skipU (by rfl) rfl (by rfl) ?_ | (refine Mix.val rfl rfl (by rfl) (fun K hK => ?_); go_big_quiet_op; refine hK _ ?_; clear hK K) | (refine Mix.skip (by rfl) ?_; go_frame))
          refine Mix.done (fun x2 => ?_)
          clear q0_0 q0_1 q0_2 q0_l
          clear q1_0 q1_1 q1_2 q1_l
          replace hs := (((hs.later x1).later y1).later x2)
          replace l1 := (((l1.later x1).later y1).later x2)
          replace lE := (((lE.later x1).later y1).later x2)
          replace S := (((S.later x1).later y1).later x2)
          obtain ⟨Y7, hZ⟩ : ∃ Z : Later Y6.w, Z.w = x2.w := ⟨u.step (x1.step (y1.step (x2))), rfl⟩
          rw [← hZ] at S hs l1 lE ⊢
          clear hZ
          have q0_0 := l1.cell (k := 0) rfl
          have q0_1 := l1.cell (k := 1) rfl
          have q0_2 := l1.cell (k := 2) rfl
          have q0_l := l1.lt
          have q1_0 := lE.cell (k := 0) rfl
          have q1_1 := lE.cell (k := 1) rfl
          have q1_2 := lE.cell (k := 2) rfl
          have q1_l := lE.lt
          go_wp2
          refine Mix.region_mixL (Mix.kinds [] [14] []) (by kernel_rfl) (by kernel_rfl) ?_
          repeat ((with_reducible refine Mix.atCons ?_); first | refine Mix.skipU (by rfl) rfl (by rfl) ?_ | (refine Mix.val rfl rfl (by rfl) (fun K hK => ?_); go_big_quiet_op; refine hK _ ?_; clear hK K) | (refine Mix.skip (by rfl) ?_; go_frame))
          refine Mix.loud rfl (by rfl) (fun x1 K hK => ?_)
          go_wp2_with fail
          refine (IsRight_calls n _ _ _ ms cs st2 _ (hs.later x1) ((S.at (v := .slice ax2 n cx2) (xs := st2) (by simp)).later x1) F4.out (by rw [← HL2.out])).mono ?_
          rintro e w' ⟨rfl, y1, rfl⟩
          rw [HR.out]
          refine hK _ y1 ?_
          clear hK K
          try go_frame
          repeat ((with_reducible refine Mix.atCons ?_); first | refine Mix.skipU (by rfl) rfl (by rfl) ?_ | (refine Mix.val rfl rfl (by rfl) (fun K hK => ?_); go_big_quiet_op; refine hK _ ?_; clear hK K) | (refine Mix.skip (by rfl) ?_; go_frame))
          refine Mix.done (fun x2 => ?_)
          clear q0_0 q0_1 q0_2 q0_l
          clear q1_0 q1_1 q1_2 q1_l
          replace hs := (((hs.later x1).later y1).later x2)
          replace l1 := (((l1.later x1).later y1).later x2)
          replace lE := (((lE.later x1).later y1).later x2)
          replace S := (((S.later x1).later y1).later x2)
          obtain ⟨Y8, hZ⟩ : ∃ Z : Later Y6.w, Z.w = x2.w := ⟨Y7.step (x1.step (y1.step (x2))), rfl⟩
          rw [← hZ] at S hs l1 lE ⊢
          clear hZ
          go_wp2
          go_roundw
          case rel => first | exact ⟨2, Y8, rfl, by omega, by go_num, by rw [HNX.out]; rfl⟩ | ((repeat apply Exists.intro); exact ⟨⟨2, Y8, rfl, by omega, by go_num, by rw [HNX.out]; rfl⟩, rfl⟩)
          case measure => simp [intOf]
      · have HE := Lib.hid (fe.trans (if_pos rfl))
        have HR := Lib.hid fr
        clear fe fr
        cases P
        · have q0_0 := l1.cell (k := 0) rfl
          have q0_1 := l1.cell (k := 1) rfl
          have q0_2 := l1.cell (k := 2) rfl
          have q0_l := l1.lt
          have q1_0 := lE.cell (k := 0) rfl
          have q1_1 := lE.cell (k := 1) rfl
          have q1_2 := lE.cell (k := 2) rfl
          have q1_l := lE.lt
          go_wp2
          refine Mix.region_mixL (Mix.kinds [] [5] []) (by kernel_rfl) (by kernel_rfl) ?_
          repeat ((with_reducible refine Mix.atCons ?_); first | refine Mix.skipU (by rfl) rfl (by rfl) ?_ | (refine Mix.val rfl rfl (by rfl) (fun K hK => ?_); go_big_quiet_op; refine hK _ ?_; clear hK K) | (refine Mix.skip (by rfl) ?_; go_frame))
          refine Mix.loud rfl (by rfl) (fun x1 K hK => ?_)
          go_wp2_with fail
          refine (CheckSetting_any n _ _ ms cs _ (hs.later x1) _ st2 ((S.at (v := .slice ax2 n cx2) (xs := st2) (by simp)).later x1)).mono ?_
          rintro e w' ⟨rfl, y1, rfl⟩
          rw [HE.out]
          refine hK _ y1 ?_
          clear hK K
          try go_frame
          repeat ((with_reducible refine Mix.atCons ?_); first | refine Mix.skipU (by rfl) rfl (by rfl) ?_ | (refine Mix.val rfl rfl (by rfl) (fun K hK => ?_); go_big_quiet_op; refine hK _ ?_; clear hK K) | (refine Mix.skip (by rfl) ?_; go_frame))
          refine Mix.done (fun x2 => ?_)
          clear q0_0 q0_1 q0_2 q0_l
          clear q1_0 q1_1 q1_2 q1_l
          replace hs := (((hs.later x1).later y1).later x2)
          replace l1 := (((l1.later x1).later y1).later x2)
          replace lE := (((lE.later x1).later y1).later x2)
          replace S := (((S.later x1).later y1).later x2)
          obtain ⟨Y7, hZ⟩ : ∃ Z : Later Y6.w, Z.w = x2.w := ⟨u.step (x1.step (y1.step (x2))), rfl⟩
          rw [← hZ] at S hs l1 lE ⊢
          clear hZ
          have q0_0 := l1.cell (k := 0) rfl
          have q0_1 := l1.cell (k := 1) rfl
          have q0_2 := l1.cell (k := 2) rfl
          have q0_l := l1.lt
          have q1_0 := lE.cell (k := 0) rfl
          have q1_1 := lE.cell (k := 1) rfl
          have q1_2 := lE.cell (k := 2) rfl
          have q1_l := lE.lt
          go_wp2
          refine Mix.region_mixL (Mix.kinds [] [14] []) (by kernel_rfl) (by kernel_rfl) ?_
          repeat ((with_reducible refine Mix.atCons ?_); first | refine Mix.skipU (by rfl) rfl (by rfl) ?_ | (refine Mix.val rfl rfl (by rfl) (fun K hK => ?_); go_big_quiet_op; refine hK _ ?_; clear hK K) | (refine Mix.skip (by rfl) ?_; go_frame))
          refine Mix.loud rfl (by rfl) (fun x1 K hK => ?_)
          go_wp2_with fail
          refine (IsRight_calls n _ _ _ ms cs st2 _ (hs.later x1) ((S.at (v := .slice ax2 n cx2) (xs := st2) (by simp)).later x1) F4.out (by rw [← HL2.out])).mono ?_
          rintro e w' ⟨rfl, y1, rfl⟩
          rw [HR.out]
          refine hK _ y1 ?_
          clear hK K
          try go_frame
          repeat ((with_reducible refine Mix.atCons ?_); first | refine Mix.skipU (by rfl) rfl (by rfl) ?_ | (refine Mix.val rfl rfl (by rfl) (fun K hK => ?_); go_big_quiet_op; refine hK _ ?_; clear hK K) | (refine Mix.skip (by rfl) ?_; go_frame))
          refine Mix.done (fun x2 => ?_)
          clear q0_0 q0_1 q0_2 q0_l
          clear q1_0 q1_1 q1_2 q1_l
          replace hs := (((hs.later x1).later y1).later x2)
          replace l1 := (((l1.later x1).later y1).later x2)
          replace lE := (((lE.later x1).later y1).later x2)
          replace S := (((S.later x1).later y1).later x2)
          obtain ⟨Y8, hZ⟩ : ∃ Z : Later Y6.w, Z.w = x2.w := ⟨Y7.step (x1.step (y1.step (x2))), rfl⟩
          rw [← hZ] at S hs l1 lE ⊢
          clear hZ
          go_wp2
          go_roundw
          case rel => first | exact ⟨2, Y8, rfl, by omega, by go_num, by rw [HNX.out]; rfl⟩ | ((repeat apply Exists.intro); exact ⟨⟨2, Y8, rfl, by omega, by go_num, by rw [HNX.out]; rfl⟩, rfl⟩)
          case measure => simp [intOf]
        · have q0_0 := l1.cell (k := 0) rfl
          have q0_1 := l1.cell (k := 1) rfl
          have q0_2 := l1.cell (k := 2) rfl
          have q0_l := l1.lt
          have q1_0 := lE.cell (k := 0) rfl
          have q1_1 := lE.cell (k := 1) rfl
          have q1_2 := lE.cell (k := 2) rfl
          have q1_l := lE.lt
          go_wp2
          refine Mix.region_mixL (Mix.kinds [] [5] []) (by kernel_rfl) (by kernel_rfl) ?_
          repeat ((with_reducible refine Mix.atCons ?_); first | refine Mix.skipU (by rfl) rfl (by rfl) ?_ | (refine Mix.val rfl rfl (by rfl) (fun K hK => ?_); go_big_quiet_op; refine hK _ ?_; clear hK K) | (refine Mix.skip (by rfl) ?_; go_frame))
          refine Mix.loud rfl (by rfl) (fun x1 K hK => ?_)
          go_wp2_with fail
          refine (CheckSetting_any n _ _ ms cs _ (hs.later x1) _ st2 ((S.at (v := .slice ax2 n cx2) (xs := st2) (by simp)).later x1)).mono ?_
          rintro e w' ⟨rfl, y1, rfl⟩
          rw [HE.out]
          refine hK _ y1 ?_
          clear hK K
          try go_frame
          repeat ((with_reducible refine Mix.atCons ?_); first | refine Mix.skipU (by rfl) rfl (by rfl) ?_ | (refine Mix.val rfl rfl (by rfl) (fun K hK => ?_); go_big_quiet_op; refine hK _ ?_; clear hK K) | (refine Mix.skip (by rfl) ?_; go_frame))
          refine Mix.done (fun x2 => ?_)
          clear q0_0 q0_1 q0_2 q0_l
          clear q1_0 q1_1 q1_2 q1_l
          replace hs := (((hs.later x1).later y1).later x2)
          replace l1 := (((l1.later x1).later y1).later x2)
          replace lE := (((lE.later x1).later y1).later x2)
          replace S := (((S.later x1).later y1).later x2)
          obtain ⟨Y7, hZ⟩ : ∃ Z : Later Y6.w, Z.w = x2.w := ⟨u.step (x1.step (y1.step (x2))), rfl⟩
          rw [← hZ] at S hs l1 lE ⊢
          clear hZ
          have q0_0 := l1.cell (k := 0) rfl
          have q0_1 := l1.cell (k := 1) rfl
          have q0_2 := l1.cell (k := 2) rfl
          have q0_l := l1.lt
          have q1_0 := lE.cell (k := 0) rfl
          have q1_1 := lE.cell (k := 1) rfl
          have q1_2 := lE.cell (k := 2) rfl
          have q1_l := lE.lt
          go_wp2
          refine Mix.region_mixL (Mix.kinds [] [14] []) (by kernel_rfl) (by kernel_rfl) ?_
          repeat ((with_reducible refine Mix.atCons ?_); first | refine Mix.skipU (by rfl) rfl (by rfl) ?_ | (refine Mix.val rfl rfl (by rfl) (fun K hK => ?_); go_big_quiet_op; refine hK _ ?_; clear hK K) | (refine Mix.skip (by rfl) ?_; go_frame))
          refine Mix.loud rfl (by rfl) (fun x1 K hK => ?_)
          go_wp2_with fail
          refine (IsRight_calls n _ _ _ ms cs st2 _ (hs.later x1) ((S.at (v := .slice ax2 n cx2) (xs := st2) (by simp)).later x1) F4.out (by rw [← HL2.out])).mono ?_
          rintro e w' ⟨rfl, y1, rfl⟩
          rw [HR.out]
          refine hK _ y1 ?_
          clear hK K
          try go_frame
          repeat ((with_reducible refine Mix.atCons ?_); first | refine Mix.skipU (by rfl) rfl (by rfl) ?_ | (refine Mix.val rfl rfl (by rfl) (fun K hK => ?_); go_big_quiet_op; refine hK _ ?_; clear hK K) | (refine Mix.skip (by rfl) ?_; go_frame))
          refine Mix.done (fun x2 => ?_)
          clear q0_0 q0_1 q0_2 q0_l
          clear q1_0 q1_1 q1_2 q1_l
          replace hs := (((hs.later x1).later y1).later x2)
          replace l1 := (((l1.later x1).later y1).later x2)
          replace lE := (((lE.later x1).later y1).later x2)
          replace S := (((S.later x1).later y1).later x2)
          obtain ⟨Y8, hZ⟩ : ∃ Z : Later Y6.w, Z.w = x2.w := ⟨Y7.step (x1.step (y1.step (x2))), rfl⟩
          rw [← hZ] at S hs l1 lE ⊢
          clear hZ
          go_wp2
          go_roundw
          case rel => first | exact ⟨2, Y8, rfl, by omega, by go_num, by rw [HNX.out]; rfl⟩ | ((repeat apply Exists.intro); exact ⟨⟨2, Y8, rfl, by omega, by go_num, by rw [HNX.out]; rfl⟩, rfl⟩)
          case measure => simp [intOf]
    · clear hlt
      have hnx : allB A1 A2 A3 3 = (allB A1 A2 A3 2 && A3) := rfl
      obtain ⟨P, hP⟩ : ∃ P, allB A1 A2 A3 2 = P := ⟨_, rfl⟩
      rw [hP] at hnx ⊢
      clear hP
      have HNX := Lib.hid hnx
      clear hnx
      obtain ⟨fe, fr⟩ := F3.out
      clear F1 F2 F3 F5
      cases A3
      · have HE := Lib.hid (fe.trans (if_neg (by decide)))
        have HR := Lib.hid fr
        clear fe fr
        cases P
        · have q0_0 := l1.cell (k := 0) rfl
          have q0_1 := l1.cell (k := 1) rfl
          have q0_2 := l1.cell (k := 2) rfl
          have q0_l := l1.lt
          have q1_0 := lE.cell (k := 0) rfl
          have q1_1 := lE.cell (k := 1) rfl
          have q1_2 := lE.cell (k := 2) rfl
          have q1_l := lE.lt
          go_wp2
          refine Mix.region_mixL (Mix.kinds [] [5] []) (by kernel_rfl) (by kernel_rfl) ?_
          repeat ((with_reducible refine Mix.atCons ?_); first | refine Mix.skipU (by rfl) rfl (by rfl) ?_ | (refine Mix.val rfl rfl (by rfl) (fun K hK => ?_); go_big_quiet_op; refine hK _ ?_; clear hK K) | (refine Mix.skip (by rfl) ?_; go_frame))
          refine Mix.loud rfl (by rfl) (fun x1 K hK => ?_)
          go_wp2_with fail
          refine (CheckSetting_any n _ _ ms cs _ (hs.later x1) _ st3 ((S.at (v := .slice ax3 n cx3) (xs := st3) (by simp)).later x1)).mono ?_
          rintro e w' ⟨rfl, y1, rfl⟩
          rw [HE.out]
          refine hK _ y1 ?_
          clear hK K
          try go_frame
          repeat ((with_reducible refine Mix.atCons ?_); first | refine Mix.skipU (by rfl) rfl (by rfl) ?_ | (refine Mix.val rfl rfl (by rfl) (fun K hK => ?_); go_big_quiet_op; refine hK _ ?_; clear hK K) | (refine Mix.skip (by rfl) ?_; go_frame))
          refine Mix.done (fun x2 => ?_)
          clear q0_0 q0_1 q0_2 q0_l
          clear q1_0 q1_1 q1_2 q1_l
          replace hs := (((hs.later x1).later y1).later x2)
          replace l1 := (((l1.later x1).later y1).later x2)
          replace lE := (((lE.later x1).later y1).later x2)
          replace S := (((S.later x1).later y1).later x2)
          obtain ⟨Y7, hZ⟩ : ∃ Z : Later Y6.w, Z.w = x2.w := ⟨u.step (x1.step (y1.step (x2))), rfl⟩
          rw [← hZ] at S hs l1 lE ⊢
          clear hZ
          have q0_0 := l1.cell (k := 0) rfl
          have q0_1 := l1.cell (k := 1) rfl
          have q0_2 := l1.cell (k := 2) rfl
          have q0_l := l1.lt
          have q1_0 := lE.cell (k := 0) rfl
          have q1_1 := lE.cell (k := 1) rfl
          have q1_2 := lE.cell (k := 2) rfl
          have q1_l := lE.lt
          go_wp2
          refine Mix.region_mixL (Mix.kinds [] [14] []) (by kernel_rfl) (by kernel_rfl) ?_
          repeat ((with_reducible refine Mix.atCons ?_); first | refine Mix.skipU (by rfl) rfl (by rfl) ?_ | (refine Mix.val rfl rfl (by rfl) (fun K hK => ?_); go_big_quiet_op; refine hK _ ?_; clear hK K) | (refine Mix.skip (by rfl) ?_; go_frame))
          refine Mix.loud rfl (by rfl) (fun x1 K hK => ?_)
          go_wp2_with fail
          refine (IsRight_calls n _ _ _ ms cs st3 _ (hs.later x1) ((S.at (v := .slice ax3 n cx3) (xs := st3) (by simp)).later x1) F4.out (by rw [← HL3.out])).mono ?_
          rintro e w' ⟨rfl, y1, rfl⟩
          rw [HR.out]
          refine hK _ y1 ?_
          clear hK K
          try go_frame
          repeat ((with_reducible refine Mix.atCons ?_); first | refine Mix.skipU (by rfl) rfl (by rfl) ?_ | (refine Mix.val rfl rfl (by rfl) (fun K hK => ?_); go_big_quiet_op; refine hK _ ?_; clear hK K) | (refine Mix.skip (by rfl) ?_; go_frame))
          refine Mix.done (fun x2 => ?_)
          clear q0_0 q0_1 q0_2 q0_l
          clear q1_0 q1_1 q1_2 q1_l
          replace hs := (((hs.later x1).later y1).later x2)
          replace l1 := (((l1.later x1).later y1).later x2)
          replace lE := (((lE.later x1).later y1).later x2)
          replace S := (((S.later x1).later y1).later x2)
          obtain ⟨Y8, hZ⟩ : ∃ Z : Later Y6.w, Z.w = x2.w := ⟨Y7.step (x1.step (y1.step (x2))), rfl⟩
          rw [← hZ] at S hs l1 lE ⊢
          clear hZ
          go_wp2
          go_roundw
          case rel => first | exact ⟨3, Y8, rfl, by omega, by go_num, by rw [HNX.out]; rfl⟩ | ((repeat apply Exists.intro); exact ⟨⟨3, Y8, rfl, by omega, by go_num, by rw [HNX.out]; rfl⟩, rfl⟩)
          case measure => simp [intOf]
        · have q0_0 := l1.cell (k := 0) rfl
          have q0_1 := l1.cell (k := 1) rfl
          have q0_2 := l1.cell (k := 2) rfl
          have q0_l := l1.lt
          have q1_0 := lE.cell (k := 0) rfl
          have q1_1 := lE.cell (k := 1) rfl
          have q1_2 := lE.cell (k := 2) rfl
          have q1_l := lE.lt
          go_wp2
          refine Mix.region_mixL (Mix.kinds [] [5] []) (by kernel_rfl) (by kernel_rfl) ?_
          repeat ((with_reducible refine Mix.atCons ?_); first | refine Mix.skipU (by rfl) rfl (by rfl) ?_ | (refine Mix.val rfl rfl (by rfl) (fun K hK => ?_); go_big_quiet_op; refine hK _ ?_; clear hK K) | (refine Mix.skip (by rfl) ?_; go_frame))
          refine Mix.loud rfl (by rfl) (fun x1 K hK => ?_)
          go_wp2_with fail
          refine (CheckSetting_any n _ _ ms cs _ (hs.later x1) _ st3 ((S.at (v := .slice ax3 n cx3) (xs := st3) (by simp)).later x1)).mono ?_
          rintro e w' ⟨rfl, y1, rfl⟩
          rw [HE.out]
          refine hK _ y1 ?_
          clear hK K
          try go_frame
          repeat ((with_reducible refine Mix.atCons ?_); first | refine Mix.skipU (by rfl) rfl (by rfl) ?_ | (refine Mix.val rfl rfl (by rfl) (fun K hK => ?_); go_big_quiet_op; refine hK _ ?_; clear hK K) | (refine Mix.skip (by rfl) ?_; go_frame))
          refine Mix.done (fun x2 => ?_)
          clear q0_0 q0_1 q0_2 q0_l
          clear q1_0 q1_1 q1_2 q1_l
          replace hs := (((hs.later x1).later y1).later x2)
          replace l1 := (((l1.later x1).later y1).later x2)
          replace lE := (((lE.later x1).later y1).later x2)
          replace S := (((S.later x1).later y1).later x2)
          obtain ⟨Y7, hZ⟩ : ∃ Z : Later Y6.w, Z.w = x2.w := ⟨u.step (x1.step (y1.step (x2))), rfl⟩
          rw [← hZ] at S hs l1 lE ⊢
          clear hZ
          have q0_0 := l1.cell (k := 0) rfl
          have q0_1 := l1.cell (k := 1) rfl
          have q0_2 := l1.cell (k := 2) rfl
          have q0_l := l1.lt
          have q1_0 := lE.cell (k := 0) rfl
          have q1_1 := lE.cell (k := 1) rfl
          have q1_2 := lE.cell (k := 2) rfl
          have q1_l := lE.lt
          go_wp2
          refine Mix.region_mixL (Mix.kinds [] [14] []) (by kernel_rfl) (by kernel_rfl) ?_
          repeat ((with_reducible refine Mix.atCons ?_); first | refine Mix.skipU (by rfl) rfl (by rfl) ?_ | (refine Mix.val rfl rfl (by rfl) (fun K hK => ?_); go_big_quiet_op; refine hK _ ?_; clear hK K) | (refine Mix.skip (by rfl) ?_; go_frame))
          refine Mix.loud rfl (by rfl) (fun x1 K hK => ?_)
          go_wp2_with fail
          refine (IsRight_calls n _ _ _ ms cs st3 _ (hs.later x1) ((S.at (v := .slice ax3 n cx3) (xs := st3) (by simp)).later x1) F4.out (by rw [← HL3.out])).mono ?_
          rintro e w' ⟨rfl, y1, rfl⟩
          rw [HR.out]
          refine hK _ y1 ?_
          clear hK K
          try go_frame
          repeat ((with_reducible refine Mix.atCons ?_); first | refine Mix.skipU (by rfl) rfl (by rfl) ?_ | (refine Mix.val rfl rfl (by rfl) (fun K hK => ?_); go_big_quiet_op; refine hK _ ?_; clear hK K) | (refine Mix.skip (by rfl) ?_; go_frame))
          refine Mix.done (fun x2 => ?_)
          clear q0_0 q0_1 q0_2 q0_l
          clear q1_0 q1_1 q1_2 q1_l
          replace hs := (((hs.later x1).later y1).later x2)
          replace l1 := (((l1.later x1).later y1).later x2)
          replace lE := (((lE.later x1).later y1).later x2)
          replace S := (((S.later x1).later y1).later x2)
          obtain ⟨Y8, hZ⟩ : ∃ Z : Later Y6.w, Z.w = x2.w := ⟨Y7.step (x1.step (y1.step (x2))), rfl⟩
          rw [← hZ] at S hs l1 lE ⊢
          clear hZ
          go_wp2
          go_roundw
          case rel => first | exact ⟨3, Y8, rfl, by omega, by go_num, by rw [HNX.out]; rfl⟩ | ((repeat apply Exists.intro); exact ⟨⟨3, Y8, rfl, by omega, by go_num, by rw [HNX.out]; rfl⟩, rfl⟩)
          case measure => simp [intOf]
      · have HE := Lib.hid (fe.trans (if_pos rfl))
        have HR := Lib.hid fr
        clear fe fr
        cases P
        · have q0_0 := l1.cell (k := 0) rfl
          have q0_1 := l1.cell (k := 1) rfl
          have q0_2 := l1.cell (k := 2) rfl
          have q0_l := l1.lt
          have q1_0 := lE.cell (k := 0) rfl
          have q1_1 := lE.cell (k := 1) rfl
          have q1_2 := lE.cell (k := 2) rfl
          have q1_l := lE.lt
          go_wp2
          refine Mix.region_mixL (Mix.kinds [] [5] []) (by kernel_rfl) (by kernel_rfl) ?_
          repeat ((with_reducible refine Mix.atCons ?_); first | refine Mix.skipU (by rfl) rfl (by rfl) ?_ | (refine Mix.val rfl rfl (by rfl) (fun K hK => ?_); go_big_quiet_op; refine hK _ ?_; clear hK K) | (refine Mix.skip (by rfl) ?_; go_frame))
          refine Mix.loud rfl (by rfl) (fun x1 K hK => ?_)
          go_wp2_with fail
          refine (CheckSetting_any n _ _ ms cs _ (hs.later x1) _ st3 ((S.at (v := .slice ax3 n cx3) (xs := st3) (by simp)).later x1)).mono ?_
          rintro e w' ⟨rfl, y1, rfl⟩
          rw [HE.out]
          refine hK _ y1 ?_
          clear hK K
          try go_frame
          repeat ((with_reducible refine Mix.atCons ?_); first | refine Mix.skipU (by rfl) rfl (by rfl) ?_ | (refine Mix.val rfl rfl (by rfl) (fun K hK => ?_); go_big_quiet_op; refine hK _ ?_; clear hK K) | (refine Mix.skip (by rfl) ?_; go_frame))
          refine Mix.done (fun x2 => ?_)
          clear q0_0 q0_1 q0_2 q0_l
          clear q1_0 q1_1 q1_2 q1_l
          replace hs := (((hs.later x1).later y1).later x2)
          replace l1 := (((l1.later x1).later y1).later x2)
          replace lE := (((lE.later x1).later y1).later x2)
          replace S := (((S.later x1).later y1).later x2)
          obtain ⟨Y7, hZ⟩ : ∃ Z : Later Y6.w, Z.w = x2.w := ⟨u.step (x1.step (y1.step (x2))), rfl⟩
          rw [← hZ] at S hs l1 lE ⊢
          clear hZ
          have q0_0 := l1.cell (k := 0) rfl
          have q0_1 := l1.cell (k := 1) rfl
          have q0_2 := l1.cell (k := 2) rfl
          have q0_l := l1.lt
          have q1_0 := lE.cell (k := 0) rfl
          have q1_1 := lE.cell (k := 1) rfl
          have q1_2 := lE.cell (k := 2) rfl
          have q1_l := lE.lt
          go_wp2
          refine Mix.region_mixL (Mix.kinds [] [14] []) (by kernel_rfl) (by kernel_rfl) ?_
          repeat ((with_reducible refine Mix.atCons ?_); first | refine Mix.skipU (by rfl) rfl (by rfl) ?_ | (refine Mix.val rfl rfl (by rfl) (fun K hK => ?_); go_big_quiet_op; refine hK _ ?_; clear hK K) | (refine Mix.skip (by rfl) ?_; go_frame))
          refine Mix.loud rfl (by rfl) (fun x1 K hK => ?_)
          go_wp2_with fail
          refine (IsRight_calls n _ _ _ ms cs st3 _ (hs.later x1) ((S.at (v := .slice ax3 n cx3) (xs := st3) (by simp)).later x1) F4.out (by rw [← HL3.out])).mono ?_
          rintro e w' ⟨rfl, y1, rfl⟩
          rw [HR.out]
          refine hK _ y1 ?_
          clear hK K
          try go_frame
          repeat ((with_reducible refine Mix.atCons ?_); first | refine Mix.skipU (by rfl) rfl (by rfl) ?_ | (refine Mix.val rfl rfl (by rfl) (fun K hK => ?_); go_big_quiet_op; refine hK _ ?_; clear hK K) | (refine Mix.skip (by rfl) ?_; go_frame))
          refine Mix.done (fun x2 => ?_)
          clear q0_0 q0_1 q0_2 q0_l
          clear q1_0 q1_1 q1_2 q1_l
          replace hs := (((hs.later x1).later y1).later x2)
          replace l1 := (((l1.later x1).later y1).later x2)
          replace lE := (((lE.later x1).later y1).later x2)
          replace S := (((S.later x1).later y1).later x2)
          obtain ⟨Y8, hZ⟩ : ∃ Z : Later Y6.w, Z.w = x2.w := ⟨Y7.step (x1.step (y1.step (x2))), rfl⟩
          rw [← hZ] at S hs l1 lE ⊢
          clear hZ
          go_wp2
          go_roundw
          case rel => first | exact ⟨3, Y8, rfl, by omega, by go_num, by rw [HNX.out]; rfl⟩ | ((repeat apply Exists.intro); exact ⟨⟨3, Y8, rfl, by omega, by go_num, by rw [HNX.out]; rfl⟩, rfl⟩)
          case measure => simp [intOf]
        · have q0_0 := l1.cell (k := 0) rfl
          have q0_1 := l1.cell (k := 1) rfl
          have q0_2 := l1.cell (k := 2) rfl
          have q0_l := l1.lt
          have q1_0 := lE.cell (k := 0) rfl
          have q1_1 := lE.cell (k := 1) rfl
          have q1_2 := lE.cell (k := 2) rfl
          have q1_l := lE.lt
          go_wp2
          refine Mix.region_mixL (Mix.kinds [] [5] []) (by kernel_rfl) (by kernel_rfl) ?_
          repeat ((with_reducible refine Mix.atCons ?_); first | refine Mix.skipU (by rfl) rfl (by rfl) ?_ | (refine Mix.val rfl rfl (by rfl) (fun K hK => ?_); go_big_quiet_op; refine hK _ ?_; clear hK K) | (refine Mix.skip (by rfl) ?_; go_frame))
          refine Mix.loud rfl (by rfl) (fun x1 K hK => ?_)
          go_wp2_with fail
          refine (CheckSetting_any n _ _ ms cs _ (hs.later x1) _ st3 ((S.at (v := .slice ax3 n cx3) (xs := st3) (by simp)).later x1)).mono ?_
          rintro e w' ⟨rfl, y1, rfl⟩
          rw [HE.out]
          refine hK _ y1 ?_
          clear hK K
          try go_frame
          repeat ((with_reducible refine Mix.atCons ?_); first | refine Mix.skipU (by rfl) rfl (by rfl) ?_ | (refine Mix.val rfl rfl (by rfl) (fun K hK => ?_); go_big_quiet_op; refine hK _ ?_; clear hK K) | (refine Mix.skip (by rfl) ?_; go_frame))
          refine Mix.done (fun x2 => ?_)
          clear q0_0 q0_1 q0_2 q0_l
          clear q1_0 q1_1 q1_2 q1_l
          replace hs := (((hs.later x1).later y1).later x2)
          replace l1 := (((l1.later x1).later y1).later x2)
          replace lE := (((lE.later x1).later y1).later x2)
          replace S := (((S.later x1).later y1).later x2)
          obtain ⟨Y7, hZ⟩ : ∃ Z : Later Y6.w, Z.w = x2.w := ⟨u.step (x1.step (y1.step (x2))), rfl⟩
          rw [← hZ] at S hs l1 lE ⊢
          clear hZ
          have q0_0 := l1.cell (k := 0) rfl
          have q0_1 := l1.cell (k := 1) rfl
          have q0_2 := l1.cell (k := 2) rfl
          have q0_l := l1.lt
          have q1_0 := lE.cell (k := 0) rfl
          have q1_1 := lE.cell (k := 1) rfl
          have q1_2 := lE.cell (k := 2) rfl
          have q1_l := lE.lt
          go_wp2
          refine Mix.region_mixL (Mix.kinds [] [14] []) (by kernel_rfl) (by kernel_rfl) ?_
          repeat ((with_reducible refine Mix.atCons ?_); first | refine Mix.skipU (by rfl) rfl (by rfl) ?_ | (refine Mix.val rfl rfl (by rfl) (fun K hK => ?_); go_big_quiet_op; refine hK _ ?_; clear hK K) | (refine Mix.skip (by rfl) ?_; go_frame))
          refine Mix.loud rfl (by rfl) (fun x1 K hK => ?_)
          go_wp2_with fail
          refine (IsRight_calls n _ _ _ ms cs st3 _ (hs.later x1) ((S.at (v := .slice ax3 n cx3) (xs := st3) (by simp)).later x1) F4.out (by rw [← HL3.out])).mono ?_
          rintro e w' ⟨rfl, y1, rfl⟩
          rw [HR.out]
          refine hK _ y1 ?_
          clear hK K
          try go_frame
          repeat ((with_reducible refine Mix.atCons ?_); first | refine Mix.skipU (by rfl) rfl (by rfl) ?_ | (refine Mix.val rfl rfl (by rfl) (fun K hK => ?_); go_big_quiet_op; refine hK _ ?_; clear hK K) | (refine Mix.skip (by rfl) ?_; go_frame))
          refine Mix.done (fun x2 => ?_)
          clear q0_0 q0_1 q0_2 q0_l
          clear q1_0 q1_1 q1_2 q1_l
          replace hs := (((hs.later x1).later y1).later x2)
          replace l1 := (((l1.later x1).later y1).later x2)
          replace lE := (((lE.later x1).later y1).later x2)
          replace S := (((S.later x1).later y1).later x2)
          obtain ⟨Y8, hZ⟩ : ∃ Z : Later Y6.w, Z.w = x2.w := ⟨Y7.step (x1.step (y1.step (x2))), rfl⟩
          rw [← hZ] at S hs l1 lE ⊢
          clear hZ
          go_wp2
          go_roundw
          case rel => first | exact ⟨3, Y8, rfl, by omega, by go_num, by rw [HNX.out]; rfl⟩ | ((repeat apply Exists.intro); exact ⟨⟨3, Y8, rfl, by omega, by go_num, by rw [HNX.out]; rfl⟩, rfl⟩)
          case measure => simp [intOf]
  obtain rfl : k = 3 := by omega
  cases hP : allB A1 A2 A3 3
  · clear F1 F2 F3 F5
    go_wp2_with fail
    refine (Works_calls _).mono ?_
    rintro e w' ⟨rfl, y, rfl⟩
    go_wp2
    go_ret
    exact ⟨rfl, Y6.step (u.step (y)), rfl⟩
  · obtain ⟨z1, z2, z3⟩ := allB_end hP
    obtain ⟨X, A, hX, g1, g2, g3, g4, g5, g6, g7⟩ := F5.out z1 z2 z3
    rw [HNL.out] at g2
    have HX := Lib.hid hX
    have G1 := Lib.hid g1
    have G2 := Lib.hid g2
    have G3 := Lib.hid g3
    have G4 := Lib.hid g4
    have G5 := Lib.hid g5
    have G6 := Lib.hid g6
    have G7 := Lib.hid g7
    clear hP z1 z2 z3 hX g1 g2 g3 g4 g5 g6 g7 F1 F2 F3 F5 hlt hk
    have HXL := Lib.hid (show n = X.length by rw [HX.out]; simp)
    have hmk := run_make_ints n (by omega)
    have p_0 := l1.cell (k := 0) rfl
    have p_1 := l1.cell (k := 1) rfl
    have p_2 := l1.cell (k := 2) rfl
    have p_l := l1.lt
    go_wp2
    clear p_0 p_1 p_2 p_l
    clear hmk
    have hI0 := IntsM.zeros u.w (lo := u.w.heap.size) (n := n) rfl (Nat.le_refl _) (by omega)
    obtain ⟨u0, hu0⟩ : ∃ q : Later u.w, u.w.alloc (.cells (madeCells #[.int .i64 0] n) 3) = q.w := ⟨Later.new _ _, rfl⟩
    rw [hu0] at hI0 ⊢
    obtain ⟨L, hL⟩ : ∃ L, u.w.heap.size = L := ⟨_, rfl⟩
    rw [hL] at hI0 ⊢
    have HL := Lib.hid hL
    clear hu0 hL
    obtain ⟨f, hf⟩ : ∃ f : Nat → Int, f = fun i => med3 (nth st1 i) (nth st2 i) (nth st3 i) := ⟨_, rfl⟩
    have HF0 := Lib.hid hf
    clear hf
    rw [← midL_zero n f] at hI0
    go_loopw [18] (fun i0 wr => ∃ (k : Nat) (y : Later u.w), wr = y.w ∧ k ≤ n ∧ i0 = .int .i64 k ∧ IntsM L y.w (.slice (some ⟨L, 0, none⟩) n n) (midL n f k)) (fun i0 _ => n - (intOf i0).toNat)
    case atStart => exact ⟨0, u0, rfl, Nat.zero_le _, rfl, hI0⟩
    clear hI0
    obtain ⟨k, u2, rfl, hk, rfl, hI⟩ := hrel
    replace hs := hs.later u2
    replace l1 := l1.later u2
    replace lE := lE.later u2
    replace S := S.later u2
    by_cases hlt : k < n
    · obtain ⟨ba, oa, ka, e, hka, hba, hga⟩ := (S.at (v := .slice ax1 n cx1) (xs := st1) (by simp)).at (k := k) (by rw [← HL1.out]; exact hlt)
      injection e with e1 e2 e3
      subst e1 e3
      have qa := hga k (by rw [← HL1.out]; exact hlt)
      clear hga e2
      obtain ⟨v1, hv1⟩ : ∃ v, nth st1 k = v := ⟨_, rfl⟩
      rw [hv1] at qa
      obtain ⟨bb, ob, kb, e, hkb, hbb, hgb⟩ := (S.at (v := .slice ax2 n cx2) (xs := st2) (by simp)).at (k := k) (by rw [← HL2.out]; exact hlt)
      injection e with e1 e2 e3
      subst e1 e3
      have qb := hgb k (by rw [← HL2.out]; exact hlt)
      clear hgb e2
      obtain ⟨v2, hv2⟩ : ∃ v, nth st2 k = v := ⟨_, rfl⟩
      rw [hv2] at qb
      obtain ⟨bc, oc, kc, e, hkc, hbc, hgc⟩ := (S.at (v := .slice ax3 n cx3) (xs := st3) (by simp)).at (k := k) (by rw [← HL3.out]; exact hlt)
      injection e with e1 e2 e3
      subst e1 e3
      have qc := hgc k (by rw [← HL3.out]; exact hlt)
      clear hgc e2
      obtain ⟨v3, hv3⟩ : ∃ v, nth st3 k = v := ⟨_, rfl⟩
      rw [hv3] at qc
      have HV := Lib.hid (show f k = med3 v1 v2 v3 by rw [HF0.out]; show med3 _ _ _ = _; rw [hv1, hv2, hv3])
      clear hv1 hv2 hv3
      have p_0 := l1.cell (k := 0) rfl
      have p_1 := l1.cell (k := 1) rfl
      have p_2 := l1.cell (k := 2) rfl
      have p_l := l1.lt
      have e_0 := lE.cell (k := 0) rfl
      have e_1 := lE.cell (k := 1) rfl
      have e_2 := lE.cell (k := 2) rfl
      have e_l := lE.lt
      go_wp2
      refine Mix.region_mixL (Mix.kinds [] [] [37]) (by kernel_rfl) (by kernel_rfl) ?_
      repeat ((with_reducible refine Mix.atCons ?_); first | refine Mix.skipU (by rfl) rfl (by rfl) ?_ | (refine Mix.val rfl rfl (by rfl) (fun K hK => ?_); go_big_quiet_op; refine hK _ ?_; clear hK K) | (refine Mix.skip (by rfl) ?_; go_frame))
      refine Mix.valY rfl (by rfl) (.int .i64 (min v1 v2)) (fun w' => by simp [go_sem]) ?_
      try go_frame
      repeat ((with_reducible refine Mix.atCons ?_); first | refine Mix.skipU (by rfl) rfl (by rfl) ?_ | (refine Mix.val rfl rfl (by rfl) (fun K hK => ?_); go_big_quiet_op; refine hK _ ?_; clear hK K) | (refine Mix.skip (by rfl) ?_; go_frame))
      refine Mix.valY rfl (by rfl) (.int .i64 (max v1 v2)) (fun w' => by simp [go_sem]) ?_
      try go_frame
      repeat ((with_reducible refine Mix.atCons ?_); first | refine Mix.skipU (by rfl) rfl (by rfl) ?_ | (refine Mix.val rfl rfl (by rfl) (fun K hK => ?_); go_big_quiet_op; refine hK _ ?_; clear hK K) | (refine Mix.skip (by rfl) ?_; go_frame))
      refine Mix.valY rfl (by rfl) (.int .i64 (min (max v1 v2) v3)) (fun w' => by simp [go_sem]) ?_
      try go_frame
      repeat ((with_reducible refine Mix.atCons ?_); first | refine Mix.skipU (by rfl) rfl (by rfl) ?_ | (refine Mix.val rfl rfl (by rfl) (fun K hK => ?_); go_big_quiet_op; refine hK _ ?_; clear hK K) | (refine Mix.skip (by rfl) ?_; go_frame))
      refine Mix.valY rfl (by rfl) (.int .i64 (max (min v1 v2) (min (max v1 v2) v3))) (fun w' => by simp [go_sem]) ?_
      try go_frame
      repeat ((with_reducible refine Mix.atCons ?_); first | refine Mix.skipU (by rfl) rfl (by rfl) ?_ | (refine Mix.val rfl rfl (by rfl) (fun K hK => ?_); go_big_quiet_op; refine hK _ ?_; clear hK K) | (refine Mix.skip (by rfl) ?_; go_frame))
      rw [show max (min v1 v2) (min (max v1 v2) v3) = f k from HV.out.symm]
      refine Mix.last rfl (by rfl) (fun x8 K8 hK8 => ?_)
      have hI8 := hI.later x8
      obtain ⟨g, e1, -, -, hgl, -, hfz, hcl, hI2, hgr⟩ := hI8.set (k := k) (by rw [midL_len]; exact hlt) (f k)
      obtain rfl : g = L := (Addr.some_block e1).symm
      clear e1
      obtain ⟨ov, hov⟩ := midL_nth n f (k := k)
      rw [hov] at hcl
      have HGR := Lib.hid hgr
      have HI8 := Lib.hid hI8
      clear hov hgr hI8
      go_wp2_with fail
      refine Mix.done (fun x9 => ?_)
      clear p_0 p_1 p_2 p_l
      clear e_0 e_1 e_2 e_l
      go_wp2
      go_roundw
      case rel =>
        obtain ⟨q, hq⟩ := IntsM.stepB (u2.step x8) HL.out HI8.out HGR.out
        have hI3 := hI2.later x9
        rw [midL_set n f hlt] at hI3
        exact ⟨k + 1, q.step ⟨x9.w, by rw [← hq]; exact x9.le⟩, rfl, by omega, by go_num, hI3⟩
      case measure => simp [intOf]; omega
    obtain rfl : n = k := by omega
    have hXI := hI.ints (by rw [midL_len]; omega)
    rw [show midL n f n = X by rw [midL_all, HX.out, HF0.out]] at hXI
    replace S := S.cons hXI
    clear hI hXI hk hlt
    have q0_0 := l1.cell (k := 0) rfl
    have q0_1 := l1.cell (k := 1) rfl
    have q0_2 := l1.cell (k := 2) rfl
    have q0_l := l1.lt
    go_wp2_with fail
    clear q0_0 q0_1 q0_2 q0_l
    refine (CheckSetting_any n _ _ ms cs _ hs _ X (S.at (v := .slice (some ⟨L, 0, none⟩) n n) (xs := X) (by simp))).mono ?_
    rintro e w' ⟨rfl, y, rfl⟩
    rw [G1.out, G2.out]
    replace hs := hs.later y
    replace l1 := l1.later y
    replace lE := lE.later y
    replace S := S.later y
    obtain ⟨Y7, hZ⟩ : ∃ Z : Later u.w, Z.w = y.w := ⟨u2.step (y), rfl⟩
    rw [← hZ] at S hs l1 lE ⊢
    clear hZ
    clear y
    have q0_0 := l1.cell (k := 0) rfl
    have q0_1 := l1.cell (k := 1) rfl
    have q0_2 := l1.cell (k := 2) rfl
    have q0_l := l1.lt
    go_wp2_with fail
    clear q0_0 q0_1 q0_2 q0_l
    refine (Set_any n _ _ _ ms cs (natV N) _ hs (S.at (v := .slice a4 nl c4) (xs := (natV N)) (by simp))).mono ?_
    rintro e w' ⟨v, y, rfl, rfl, hR⟩
    rw [G4.out] at hR
    rw [G3.out]
    replace hs := hs.later y
    replace l1 := l1.later y
    replace lE := lE.later y
    replace S := S.later y
    obtain ⟨a8, n8, c8, rfl⟩ : ∃ a n c, v = .slice a n c := by obtain ⟨a, c, e⟩ := hR.form; exact ⟨a, _, c, e⟩
    replace S := S.cons hR
    obtain ⟨Y9, hZ⟩ : ∃ Z : Later u.w, Z.w = y.w := ⟨Y7.step (y), rfl⟩
    rw [← hZ] at S hs l1 lE ⊢
    clear hZ
    clear y hR
    have q0_0 := lE.cell (k := 0) rfl
    have q0_1 := lE.cell (k := 1) rfl
    have q0_2 := lE.cell (k := 2) rfl
    have q0_l := lE.lt
    go_wp2_with fail
    clear q0_0 q0_1 q0_2 q0_l
    refine (before_calls _ _ X A _ (S.at (v := .slice (some ⟨L, 0, none⟩) n n) (xs := X) (by simp)) (S.at (v := .slice a8 n8 c8) (xs := A) (by simp)) (by rw [← HXL.out, G5.out])).mono ?_
    rintro e w' ⟨rfl, y, rfl⟩
    rw [G6.out]
    replace hs := hs.later y
    replace l1 := l1.later y
    replace lE := lE.later y
    replace S := S.later y
    obtain ⟨Y10, hZ⟩ : ∃ Z : Later u.w, Z.w = y.w := ⟨Y9.step (y), rfl⟩
    rw [← hZ] at S hs l1 lE ⊢
    clear hZ
    clear y
    have q0_0 := lE.cell (k := 0) rfl
    have q0_1 := lE.cell (k := 1) rfl
    have q0_2 := lE.cell (k := 2) rfl
    have q0_l := lE.lt
    go_wp2_with fail
    clear q0_0 q0_1 q0_2 q0_l
    refine (before_calls _ _ st1 A _ (S.at (v := .slice ax1 n cx1) (xs := st1) (by simp)) (S.at (v := .slice a8 n8 c8) (xs := A) (by simp)) (by rw [← HL1.out, G5.out])).mono ?_
    rintro e w' ⟨rfl, y, rfl⟩
    rw [G7.out]
    replace hs := hs.later y
    replace l1 := l1.later y
    replace lE := lE.later y
    replace S := S.later y
    obtain ⟨Y11, hZ⟩ : ∃ Z : Later u.w, Z.w = y.w := ⟨Y10.step (y), rfl⟩
    rw [← hZ] at S hs l1 lE ⊢
    clear hZ
    clear y
    go_wp2_with fail
    refine (Works_calls _).mono ?_
    rintro e w' ⟨rfl, y, rfl⟩
    go_wp2
    go_ret
    exact ⟨rfl, Y6.step (u.step (Y11.step (y))), rfl⟩
end Go.Proofs.Ytdhdpbnlhnodjaa
