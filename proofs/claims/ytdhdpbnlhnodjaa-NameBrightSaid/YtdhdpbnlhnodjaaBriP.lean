import Derived.Test.YtdhdpbnlhnodjaaLodS
import Derived.Test.YtdhdpbnlhnodjaaBriS
/-  NameBright. -/
namespace Go.Proofs.Ytdhdpbnlhnodjaa
open Go.RowKit
open Sat (brightF)
set_option maxRecDepth 100000 in
set_option maxHeartbeats 8000000 in
theorem NameBright_calls (ni : Int) (mv cv : Value) (ms : List (Int × Int)) (cs : List Int) (b : Nat) (W : World) (hs : Sht W mv cv ms cs) (_hb : b ≤ 65535) :
    Calls Try.prog 12 #[.agg #[.int .i64 ni, mv, cv], .int .u16 (b : Int)] W (Gives (.bool true) W) := by
  have S : Ins W [] := Ins.nil _
  obtain ⟨am, lm, cm, rfl⟩ : ∃ a n c, mv = .slice a n c := by obtain ⟨a, c, e⟩ := hs.m.form; exact ⟨a, _, c, e⟩
  obtain ⟨ac, lc, cc, rfl⟩ : ∃ a n c, cv = .slice a n c := by obtain ⟨a, c, e⟩ := hs.c.form; exact ⟨a, _, c, e⟩
  by_cases hv : vsheet ni ms cs = 0
  rotate_left
  · have HF := Lib.hid (show fineB ni ms cs = false from decide_eq_false hv)
    clear hv
    go_enter Try.func12, Try.ntmps12
    go_wp2_with fail
    obtain ⟨B1, hb⟩ : ∃ b, b = W.heap.size := ⟨_, rfl⟩
    have l1 : Lin (W.alloc (.cells #[.int .i64 ni, .slice am lm cm, .slice ac lc cc] 25)) B1 25 [.int .i64 ni, .slice am lm cm, .slice ac lc cc] := by rw [hb]; exact Lin.new _ _ [.int .i64 ni, .slice am lm cm, .slice ac lc cc]
    replace S := S.later (Later.new _ (.cells #[.int .i64 ni, .slice am lm cm, .slice ac lc cc] 25))
    rw [Later.new_w] at S
    replace hs := hs.later (Later.new _ (.cells #[.int .i64 ni, .slice am lm cm, .slice ac lc cc] 25))
    rw [Later.new_w] at hs
    have hsz : (W.alloc (.cells #[.int .i64 ni, .slice am lm cm, .slice ac lc cc] 25)).heap.size = B1 + 1 := by rw [hb]; simp
    obtain ⟨Y2, hZ⟩ : ∃ Z : Later W, Z.w = W.alloc (.cells #[.int .i64 ni, .slice am lm cm, .slice ac lc cc] 25) := ⟨Later.new _ _, rfl⟩
    rw [← hZ] at S hsz hs l1 ⊢
    clear hZ
    rw [← hb]
    clear hb
    clear hsz
    refine (fine_calls ni _ _ ms cs _ hs).mono ?_
    rintro e w' ⟨rfl, y, rfl⟩
    rw [HF.out]
    replace hs := hs.later y
    replace l1 := l1.later y
    replace S := S.later y
    obtain ⟨Y3, hZ⟩ : ∃ Z : Later W, Z.w = y.w := ⟨Y2.step (y), rfl⟩
    rw [← hZ] at S hs l1 ⊢
    clear hZ
    clear y
    go_wp2_with fail
    refine (Works_calls _).mono ?_
    rintro e w' ⟨rfl, y, rfl⟩
    go_wp2
    go_ret
    exact ⟨rfl, Y3.step (y), rfl⟩
  obtain ⟨n, mn, cn, rfl, hms, hcs, hS⟩ := vsheet_nat hv
  have HF := Lib.hid (show fineB n ms cs = true from decide_eq_true hv)
  have HS := Lib.hid hS
  have HMS := Lib.hid hms
  have HCS := Lib.hid hcs
  have h1 := hS.n1
  have h10 := hS.n10
  have HML := Lib.hid (show lm = ms.length by obtain ⟨a, c, e⟩ := hs.m.form; cases e; rfl)
  have HCL := Lib.hid (show lc = cs.length by obtain ⟨a, c, e⟩ := hs.c.form; cases e; rfl)
  clear hv hms hcs hS
  by_cases hg0 : 7 < n
  · have d0 : decide ((7 : Int) < (n : Int)) = true := decide_eq_true (by omega)
    clear hg0
    go_enter Try.func12, Try.ntmps12
    go_wp2_with fail
    obtain ⟨B1, hb⟩ : ∃ b, b = W.heap.size := ⟨_, rfl⟩
    have l1 : Lin (W.alloc (.cells #[.int .i64 n, .slice am lm cm, .slice ac lc cc] 25)) B1 25 [.int .i64 n, .slice am lm cm, .slice ac lc cc] := by rw [hb]; exact Lin.new _ _ [.int .i64 n, .slice am lm cm, .slice ac lc cc]
    replace S := S.later (Later.new _ (.cells #[.int .i64 n, .slice am lm cm, .slice ac lc cc] 25))
    rw [Later.new_w] at S
    replace hs := hs.later (Later.new _ (.cells #[.int .i64 n, .slice am lm cm, .slice ac lc cc] 25))
    rw [Later.new_w] at hs
    have hsz : (W.alloc (.cells #[.int .i64 n, .slice am lm cm, .slice ac lc cc] 25)).heap.size = B1 + 1 := by rw [hb]; simp
    obtain ⟨Y2, hZ⟩ : ∃ Z : Later W, Z.w = W.alloc (.cells #[.int .i64 n, .slice am lm cm, .slice ac lc cc] 25) := ⟨Later.new _ _, rfl⟩
    rw [← hZ] at S hsz hs l1 ⊢
    clear hZ
    rw [← hb]
    clear hb
    clear hsz
    refine (fine_calls n _ _ ms cs _ hs).mono ?_
    rintro e w' ⟨rfl, y, rfl⟩
    rw [HF.out]
    replace hs := hs.later y
    replace l1 := l1.later y
    replace S := S.later y
    obtain ⟨Y3, hZ⟩ : ∃ Z : Later W, Z.w = y.w := ⟨Y2.step (y), rfl⟩
    rw [← hZ] at S hs l1 ⊢
    clear hZ
    clear y
    have q0_0 := l1.cell (k := 0) rfl
    have q0_1 := l1.cell (k := 1) rfl
    have q0_2 := l1.cell (k := 2) rfl
    have q0_l := l1.lt
    go_wp2_with fail
    clear q0_0 q0_1 q0_2 q0_l
    refine (Works_calls _).mono ?_
    rintro e w' ⟨rfl, y, rfl⟩
    go_wp2
    go_ret
    exact ⟨rfl, Y3.step (y), rfl⟩
  have d0 : decide ((7 : Int) < (n : Int)) = false := decide_eq_false (by omega)
  have HG0 := Lib.hid hg0
  clear hg0
  obtain ⟨m, f1, f2, f3, f4, f5, f6, f7, f8, f9, f10⟩ := bright_facts HS.out HMS.out HCS.out
  obtain ⟨L, hLd⟩ : ∃ L, HS.out.lay = L := ⟨_, rfl⟩
  rw [hLd] at f1 f2 f5 f7 f8 f9 f10
  clear hLd
  obtain ⟨BL, hBL⟩ : ∃ l, (brightF L n).length = l := ⟨_, rfl⟩
  rw [hBL] at f5
  have HBL := Lib.hid hBL
  clear hBL
  have F1 := Lib.hid f1
  have F2 := Lib.hid f2
  have F3 := Lib.hid f3
  have F4 := Lib.hid f4
  have F7 := Lib.hid f7
  have F8 := Lib.hid f8
  have F9 := Lib.hid f9
  have F10 := Lib.hid f10
  clear f1 f2 f3 f4 f7 f8 f9 f10
  obtain ⟨N, hNd⟩ : ∃ N, someN n b = N := ⟨_, rfl⟩
  have HN := Lib.hid (show Nms n N from hNd ▸ someN_nms n b)
  have HND := Lib.hid hNd
  clear hNd
  obtain ⟨nl, hnl⟩ : ∃ nl, N.length = nl := ⟨_, rfl⟩
  have HNL := Lib.hid hnl
  clear hnl
  have hnl10 : nl ≤ 10 := by rw [← HNL.out]; exact Nat.le_trans HN.out.len h10
  go_enter Try.func12, Try.ntmps12
  go_wp2_with fail
  obtain ⟨B1, hb⟩ : ∃ b, b = W.heap.size := ⟨_, rfl⟩
  have l1 : Lin (W.alloc (.cells #[.int .i64 n, .slice am lm cm, .slice ac lc cc] 25)) B1 25 [.int .i64 n, .slice am lm cm, .slice ac lc cc] := by rw [hb]; exact Lin.new _ _ [.int .i64 n, .slice am lm cm, .slice ac lc cc]
  replace S := S.later (Later.new _ (.cells #[.int .i64 n, .slice am lm cm, .slice ac lc cc] 25))
  rw [Later.new_w] at S
  replace hs := hs.later (Later.new _ (.cells #[.int .i64 n, .slice am lm cm, .slice ac lc cc] 25))
  rw [Later.new_w] at hs
  have hsz : (W.alloc (.cells #[.int .i64 n, .slice am lm cm, .slice ac lc cc] 25)).heap.size = B1 + 1 := by rw [hb]; simp
  obtain ⟨Y2, hZ⟩ : ∃ Z : Later W, Z.w = W.alloc (.cells #[.int .i64 n, .slice am lm cm, .slice ac lc cc] 25) := ⟨Later.new _ _, rfl⟩
  rw [← hZ] at S hsz hs l1 ⊢
  clear hZ
  rw [← hb]
  clear hb
  clear hsz
  refine (fine_calls n _ _ ms cs _ hs).mono ?_
  rintro e w' ⟨rfl, y, rfl⟩
  rw [HF.out]
  replace hs := hs.later y
  replace l1 := l1.later y
  replace S := S.later y
  obtain ⟨Y3, hZ⟩ : ∃ Z : Later W, Z.w = y.w := ⟨Y2.step (y), rfl⟩
  rw [← hZ] at S hs l1 ⊢
  clear hZ
  clear y
  have q0_0 := l1.cell (k := 0) rfl
  have q0_1 := l1.cell (k := 1) rfl
  have q0_2 := l1.cell (k := 2) rfl
  have q0_l := l1.lt
  go_wp2_with fail
  clear q0_0 q0_1 q0_2 q0_l
  refine (Brightest_any n _ _ ms cs _ hs).mono ?_
  rintro e w' ⟨v, y, rfl, rfl, hR⟩
  rw [F1.out] at hR
  rw [F4.out]
  replace hs := hs.later y
  replace l1 := l1.later y
  replace S := S.later y
  obtain ⟨a4, n4, c4, rfl⟩ : ∃ a n c, v = .slice a n c := by obtain ⟨a, c, e⟩ := hR.form; exact ⟨a, _, c, e⟩
  replace S := S.cons hR
  obtain ⟨Y5, hZ⟩ : ∃ Z : Later W, Z.w = y.w := ⟨Y3.step (y), rfl⟩
  rw [← hZ] at S hs l1 ⊢
  clear hZ
  clear y hR
  obtain rfl : BL = n4 := by obtain ⟨a, c, e⟩ := (S.at (v := .slice a4 n4 c4) (xs := (natV (brightF L n))) (by simp)).form; cases e; exact (by rw [natV_len, HBL.out])
  have q0_0 := l1.cell (k := 0) rfl
  have q0_1 := l1.cell (k := 1) rfl
  have q0_2 := l1.cell (k := 2) rfl
  have q0_l := l1.lt
  go_wp2_with fail
  clear q0_0 q0_1 q0_2 q0_l
  refine (Most_any n _ _ ms cs _ hs).mono ?_
  rintro e w' ⟨rfl, y, rfl⟩
  rw [F3.out, F4.out]
  replace hs := hs.later y
  replace l1 := l1.later y
  replace S := S.later y
  obtain ⟨Y6, hZ⟩ : ∃ Z : Later W, Z.w = y.w := ⟨Y5.step (y), rfl⟩
  rw [← hZ] at S hs l1 ⊢
  clear hZ
  clear y
  by_cases hall : BL = n
  · obtain rfl : n = m := by omega
    obtain rfl : n = BL := hall.symm
    clear hall
    have q0_0 := l1.cell (k := 0) rfl
    have q0_1 := l1.cell (k := 1) rfl
    have q0_2 := l1.cell (k := 2) rfl
    have q0_l := l1.lt
    go_wp2_with fail
    clear q0_0 q0_1 q0_2 q0_l
    refine (Named_calls n _ _ _ ms cs (natV (brightF L n)) _ hs (S.at (v := .slice a4 n c4) (xs := (natV (brightF L n))) (by simp))).mono ?_
    rintro e w' ⟨rfl, y, rfl⟩
    rw [F2.out]
    replace hs := hs.later y
    replace l1 := l1.later y
    replace S := S.later y
    obtain ⟨Y7, hZ⟩ : ∃ Z : Later W, Z.w = y.w := ⟨Y6.step (y), rfl⟩
    rw [← hZ] at S hs l1 ⊢
    clear hZ
    clear y
    have q0_0 := l1.cell (k := 0) rfl
    have q0_1 := l1.cell (k := 1) rfl
    have q0_2 := l1.cell (k := 2) rfl
    have q0_l := l1.lt
    go_wp2_with fail
    clear q0_0 q0_1 q0_2 q0_l
    refine (Set_any n _ _ _ ms cs (natV (brightF L n)) _ hs (S.at (v := .slice a4 n c4) (xs := (natV (brightF L n))) (by simp))).mono ?_
    rintro e w' ⟨v, y, rfl, rfl, hR⟩
    rw [F7.out]
    replace hs := hs.later y
    replace l1 := l1.later y
    replace S := S.later y
    obtain ⟨a8, n8, c8, rfl⟩ : ∃ a n c, v = .slice a n c := by obtain ⟨a, c, e⟩ := hR.form; exact ⟨a, _, c, e⟩
    replace S := S.cons hR
    obtain ⟨Y9, hZ⟩ : ∃ Z : Later W, Z.w = y.w := ⟨Y7.step (y), rfl⟩
    rw [← hZ] at S hs l1 ⊢
    clear hZ
    clear y hR
    have p_0 := l1.cell (k := 0) rfl
    have p_1 := l1.cell (k := 1) rfl
    have p_2 := l1.cell (k := 2) rfl
    have p_l := l1.lt
    go_wp2
    clear p_0 p_1 p_2 p_l
    go_loopw [11, 12, 13, 14, 15, 16, 17] (fun tv i0 _ _ _ _ _ wr => ∃ (k : Nat) (u : Later Y9.w), wr = u.w ∧ k ≤ n ∧ i0 = .int .i64 k ∧ Ints u.w tv (natV (brightF L k))) (fun _ i0 _ _ _ _ _ _ => n - (intOf i0).toNat)
    case atStart => exact ⟨0, Later.self _, rfl, Nat.zero_le _, rfl, by rw [show natV (brightF L 0) = [] by simp [brightF, natV]]; exact Ints.nil _ _⟩
    obtain ⟨k, u, rfl, hk, rfl, hO⟩ := hrel
    obtain ⟨ao, no, co, rfl⟩ : ∃ a n c, _ = Value.slice a n c := by obtain ⟨a, c, e⟩ := hO.form; exact ⟨a, _, c, e⟩
    replace hs := hs.later u
    replace l1 := l1.later u
    replace S := S.later u
    by_cases hlt : k < n
    · have S := S.cons hO
      clear hO
      have hbl : (brightF L k).length ≤ k := bright_len L k
      by_cases hin : k ∈ brightF L n
      · obtain ⟨g1, g2⟩ := F8.out k hlt hin
        have G1 := Lib.hid g1
        have G2 := Lib.hid g2
        clear g1 g2
        have HH := Lib.hid (show hasB (natV (brightF L n)) (k : Int) = true by rw [has_nat]; exact decide_eq_true hin)
        have q0_0 := l1.cell (k := 0) rfl
        have q0_1 := l1.cell (k := 1) rfl
        have q0_2 := l1.cell (k := 2) rfl
        have q0_l := l1.lt
        go_wp2_with fail
        clear q0_0 q0_1 q0_2 q0_l
        refine (Why_any n _ _ ms cs _ hs k).mono ?_
        rintro e w' ⟨v, y, lq, rfl, rfl, hR, hC, hD⟩
        rw [G1.out] at hC hD ⊢
        clear hC hD
        replace hs := hs.later y
        replace l1 := l1.later y
        replace S := S.later y
        obtain ⟨a10, n10, c10, rfl⟩ : ∃ a n c, v = .slice a n c := by obtain ⟨a, c, e⟩ := hR.form; exact ⟨a, _, c, e⟩
        replace S := S.cons hR
        obtain ⟨Y11, hZ⟩ : ∃ Z : Later Y9.w, Z.w = y.w := ⟨u.step (y), rfl⟩
        rw [← hZ] at S hs l1 ⊢
        clear hZ
        clear y hR
        have hO1 := (S.at (v := .slice ao no co) (xs := (natV (brightF L k))) (by simp))
        have hE := IntsM.empty Y11.w (lo := Y11.w.heap.size) rfl (Nat.le_refl _)
        have hO2 := hO1.later (Later.new Y11.w (.cells #[] 3))
        rw [Later.new_w] at hO2
        obtain ⟨a1', n1', c1', q1, hr1, hA1⟩ := app_emptyM hE hO2 (by simp) (by rw [natV_len]; omega) 23
        have HR1 := Lib.hid hr1
        obtain ⟨v2, q2, hr2, hA2, -⟩ := app_int_stepM (W := Y11.w) ((Later.new Y11.w (.cells #[] 3)).step q1).le hA1 (k : Int) (by rw [natV_len]; omega) 23
        obtain ⟨a2', n2', c2', rfl⟩ := hA2.form'
        have HR2 := Lib.hid hr2
        have hW := hA2.ints (by rw [List.length_append, natV_len]; simp; omega)
        rw [show natV (brightF L k) ++ [(k : Int)] = natV (brightF L k ++ [k]) by simp [natV]] at hW
        clear hO1 hO2 hE hr1 hr2 hA1 hA2
        go_wp2_with (first | ((with_reducible show wpList _ _ _ (⟨some 98, _, _, _, _, _⟩ :: _) _ _); refine Lib.wpList_append_run_sl _ rfl _ _ 23 rfl _ _ rfl rfl HR1.out ?_) | ((with_reducible show wpList _ _ _ (⟨some 101, _, _, _, _, _⟩ :: _) _ _); refine Lib.wpList_append_run_sl _ rfl _ _ 23 rfl _ _ rfl rfl HR2.out ?_))
        replace hs := hs.later q2
        replace l1 := l1.later q2
        replace S := (S.later q2).cons hW
        clear hW
        obtain ⟨Y12, hZ⟩ : ∃ Z : Later Y9.w, Z.w = q2.w := ⟨Y11.step (q2), rfl⟩
        rw [← hZ] at S hs l1 ⊢
        clear hZ
        refine (Has_calls _ (natV (brightF L n)) k _ (S.at (v := .slice a4 n c4) (xs := (natV (brightF L n))) (by simp))).mono ?_
        rintro e w' ⟨rfl, rfl⟩
        rw [HH.out]
        go_wp2
        go_roundw
        case rel => first | exact ⟨k + 1, Y12, rfl, by omega, by go_num, by rw [G2.out]; exact (S.at (v := .slice a2' n2' c2') (xs := (natV (brightF L k ++ [k]))) (by simp))⟩ | ((repeat apply Exists.intro); exact ⟨⟨k + 1, Y12, rfl, by omega, by go_num, by rw [G2.out]; exact (S.at (v := .slice a2' n2' c2') (xs := (natV (brightF L k ++ [k]))) (by simp))⟩, rfl⟩)
        case measure => simp [intOf]; omega
      · obtain ⟨g1, g2, g3, g4⟩ := F9.out k hlt hin
        have G1 := Lib.hid g1
        have G2 := Lib.hid g3
        have G3 := Lib.hid g2
        have G4 := Lib.hid g4
        clear g1 g2 g3 g4
        have HH := Lib.hid (show hasB (natV (brightF L n)) (k : Int) = false by rw [has_nat]; exact decide_eq_false hin)
        have q0_0 := l1.cell (k := 0) rfl
        have q0_1 := l1.cell (k := 1) rfl
        have q0_2 := l1.cell (k := 2) rfl
        have q0_l := l1.lt
        go_wp2_with fail
        clear q0_0 q0_1 q0_2 q0_l
        refine (Why_any n _ _ ms cs _ hs k).mono ?_
        rintro e w' ⟨v, y, lq, rfl, rfl, hR, hC, hD⟩
        rw [G1.out] at hC hD ⊢
        have HC := Lib.hid (hC rfl).1
        rw [G3.out] at HC
        clear hC hD
        replace hs := hs.later y
        replace l1 := l1.later y
        replace S := S.later y
        obtain ⟨a10, n10, c10, rfl⟩ : ∃ a n c, v = .slice a n c := by obtain ⟨a, c, e⟩ := hR.form; exact ⟨a, _, c, e⟩
        replace S := S.cons hR
        obtain ⟨Y11, hZ⟩ : ∃ Z : Later Y9.w, Z.w = y.w := ⟨u.step (y), rfl⟩
        rw [← hZ] at S hs l1 ⊢
        clear hZ
        clear y hR
        have hO1 := (S.at (v := .slice ao no co) (xs := (natV (brightF L k))) (by simp))
        have hE := IntsM.empty Y11.w (lo := Y11.w.heap.size) rfl (Nat.le_refl _)
        have hO2 := hO1.later (Later.new Y11.w (.cells #[] 3))
        rw [Later.new_w] at hO2
        obtain ⟨a1', n1', c1', q1, hr1, hA1⟩ := app_emptyM hE hO2 (by simp) (by rw [natV_len]; omega) 23
        have HR1 := Lib.hid hr1
        obtain ⟨v2, q2, hr2, hA2, -⟩ := app_int_stepM (W := Y11.w) ((Later.new Y11.w (.cells #[] 3)).step q1).le hA1 (k : Int) (by rw [natV_len]; omega) 23
        obtain ⟨a2', n2', c2', rfl⟩ := hA2.form'
        have HR2 := Lib.hid hr2
        have hW := hA2.ints (by rw [List.length_append, natV_len]; simp; omega)
        rw [show natV (brightF L k) ++ [(k : Int)] = natV (brightF L k ++ [k]) by simp [natV]] at hW
        clear hO1 hO2 hE hr1 hr2 hA1 hA2
        go_wp2_with (first | ((with_reducible show wpList _ _ _ (⟨some 98, _, _, _, _, _⟩ :: _) _ _); refine Lib.wpList_append_run_sl _ rfl _ _ 23 rfl _ _ rfl rfl HR1.out ?_) | ((with_reducible show wpList _ _ _ (⟨some 101, _, _, _, _, _⟩ :: _) _ _); refine Lib.wpList_append_run_sl _ rfl _ _ 23 rfl _ _ rfl rfl HR2.out ?_))
        replace hs := hs.later q2
        replace l1 := l1.later q2
        replace S := (S.later q2).cons hW
        clear hW
        obtain ⟨Y12, hZ⟩ : ∃ Z : Later Y9.w, Z.w = q2.w := ⟨Y11.step (q2), rfl⟩
        rw [← hZ] at S hs l1 ⊢
        clear hZ
        refine (Has_calls _ (natV (brightF L n)) k _ (S.at (v := .slice a4 n c4) (xs := (natV (brightF L n))) (by simp))).mono ?_
        rintro e w' ⟨rfl, rfl⟩
        rw [HH.out]
        have q0_0 := l1.cell (k := 0) rfl
        have q0_1 := l1.cell (k := 1) rfl
        have q0_2 := l1.cell (k := 2) rfl
        have q0_l := l1.lt
        go_wp2_with fail
        clear q0_0 q0_1 q0_2 q0_l
        refine (Set_any n _ _ _ ms cs (natV (brightF L k ++ [k])) _ hs (S.at (v := .slice a2' n2' c2') (xs := (natV (brightF L k ++ [k]))) (by simp))).mono ?_
        rintro e w' ⟨v, y, rfl, rfl, hR⟩
        rw [G4.out]
        replace hs := hs.later y
        replace l1 := l1.later y
        replace S := S.later y
        obtain ⟨a13, n13, c13, rfl⟩ : ∃ a n c, v = .slice a n c := by obtain ⟨a, c, e⟩ := hR.form; exact ⟨a, _, c, e⟩
        replace S := S.cons hR
        obtain ⟨Y14, hZ⟩ : ∃ Z : Later Y9.w, Z.w = y.w := ⟨Y12.step (y), rfl⟩
        rw [← hZ] at S hs l1 ⊢
        clear hZ
        clear y hR
        have q0_0 := l1.cell (k := 0) rfl
        have q0_1 := l1.cell (k := 1) rfl
        have q0_2 := l1.cell (k := 2) rfl
        have q0_l := l1.lt
        go_wp2_with fail
        clear q0_0 q0_1 q0_2 q0_l
        refine (CheckChain_any n _ _ _ ms cs (natV (brightF L k ++ [k])) _ hs (S.at (v := .slice a2' n2' c2') (xs := (natV (brightF L k ++ [k]))) (by simp)) _ lq (S.at (v := .slice a10 n10 c10) (xs := lq) (by simp))).mono ?_
        rintro e w' ⟨rfl, y, rfl⟩
        rw [HC.out]
        replace hs := hs.later y
        replace l1 := l1.later y
        replace S := S.later y
        obtain ⟨Y15, hZ⟩ : ∃ Z : Later Y9.w, Z.w = y.w := ⟨Y14.step (y), rfl⟩
        rw [← hZ] at S hs l1 ⊢
        clear hZ
        clear y
        have q0_0 := l1.cell (k := 0) rfl
        have q0_1 := l1.cell (k := 1) rfl
        have q0_2 := l1.cell (k := 2) rfl
        have q0_l := l1.lt
        go_wp2_with fail
        clear q0_0 q0_1 q0_2 q0_l
        refine (refCheckChain_any n _ _ _ ms cs (natV (brightF L k ++ [k])) _ hs (S.at (v := .slice a2' n2' c2') (xs := (natV (brightF L k ++ [k]))) (by simp)) _ lq (S.at (v := .slice a10 n10 c10) (xs := lq) (by simp))).mono ?_
        rintro e w' ⟨rfl, y, rfl⟩
        rw [HC.out]
        replace hs := hs.later y
        replace l1 := l1.later y
        replace S := S.later y
        obtain ⟨Y16, hZ⟩ : ∃ Z : Later Y9.w, Z.w = y.w := ⟨Y15.step (y), rfl⟩
        rw [← hZ] at S hs l1 ⊢
        clear hZ
        clear y
        go_wp2
        go_roundw
        case rel => first | exact ⟨k + 1, Y16, rfl, by omega, by go_num, by rw [G2.out]; exact (S.at (v := .slice ao no co) (xs := (natV (brightF L k))) (by simp))⟩ | ((repeat apply Exists.intro); exact ⟨⟨k + 1, Y16, rfl, by omega, by go_num, by rw [G2.out]; exact (S.at (v := .slice ao no co) (xs := (natV (brightF L k))) (by simp))⟩, rfl⟩)
        case measure => simp [intOf]; omega
    obtain rfl : n = k := by omega
    clear hO
    have q0_0 := l1.cell (k := 0) rfl
    have q0_1 := l1.cell (k := 1) rfl
    have q0_2 := l1.cell (k := 2) rfl
    have q0_l := l1.lt
    go_wp2_with fail
    clear q0_0 q0_1 q0_2 q0_l
    refine (Some_calls n b _ _ ms cs h10 _ hs).mono ?_
    rintro e w' ⟨v, y, rfl, rfl, hR⟩
    rw [HND.out] at hR
    replace hs := hs.later y
    replace l1 := l1.later y
    replace S := S.later y
    obtain ⟨a10, n10, c10, rfl⟩ : ∃ a n c, v = .slice a n c := by obtain ⟨a, c, e⟩ := hR.form; exact ⟨a, _, c, e⟩
    replace S := S.cons hR
    obtain ⟨Y11, hZ⟩ : ∃ Z : Later Y9.w, Z.w = y.w := ⟨u.step (y), rfl⟩
    rw [← hZ] at S hs l1 ⊢
    clear hZ
    clear y hR
    obtain rfl : nl = n10 := by obtain ⟨a, c, e⟩ := (S.at (v := .slice a10 n10 c10) (xs := (natV N)) (by simp)).form; cases e; exact (by rw [natV_len, HNL.out])
    rcases set_can HS.out HN.out with hcan | hcan
    rotate_left
    · have HG := Lib.hid (show setEI n ms cs (natV N) = 18 by rw [HMS.out, HCS.out]; exact hcan.1)
      clear hcan
      have q0_0 := l1.cell (k := 0) rfl
      have q0_1 := l1.cell (k := 1) rfl
      have q0_2 := l1.cell (k := 2) rfl
      have q0_l := l1.lt
      go_wp2_with fail
      clear q0_0 q0_1 q0_2 q0_l
      refine (Set_any n _ _ _ ms cs (natV N) _ hs (S.at (v := .slice a10 nl c10) (xs := (natV N)) (by simp))).mono ?_
      rintro e w' ⟨v, y, rfl, rfl, hR⟩
      rw [HG.out]
      replace hs := hs.later y
      replace l1 := l1.later y
      replace S := S.later y
      obtain ⟨a12, n12, c12, rfl⟩ : ∃ a n c, v = .slice a n c := by obtain ⟨a, c, e⟩ := hR.form; exact ⟨a, _, c, e⟩
      replace S := S.cons hR
      obtain ⟨Y13, hZ⟩ : ∃ Z : Later Y9.w, Z.w = y.w := ⟨Y11.step (y), rfl⟩
      rw [← hZ] at S hs l1 ⊢
      clear hZ
      clear y hR
      go_wp2_with fail
      refine (Works_calls _).mono ?_
      rintro e w' ⟨rfl, y, rfl⟩
      go_wp2
      go_ret
      exact ⟨rfl, Y9.step (Y13.step (y)), rfl⟩
    have HG := Lib.hid (show setEI n ms cs (natV N) = 0 by rw [HMS.out, HCS.out]; exact hcan.1)
    obtain ⟨hnm, hfst⟩ := F10.out N HN.out HG.out
    rw [HNL.out] at hnm
    have HFST := Lib.hid hfst
    clear hcan hfst
    have q0_0 := l1.cell (k := 0) rfl
    have q0_1 := l1.cell (k := 1) rfl
    have q0_2 := l1.cell (k := 2) rfl
    have q0_l := l1.lt
    go_wp2_with fail
    clear q0_0 q0_1 q0_2 q0_l
    refine (Set_any n _ _ _ ms cs (natV N) _ hs (S.at (v := .slice a10 nl c10) (xs := (natV N)) (by simp))).mono ?_
    rintro e w' ⟨v, y, rfl, rfl, hR⟩
    rw [HG.out]
    replace hs := hs.later y
    replace l1 := l1.later y
    replace S := S.later y
    obtain ⟨a12, n12, c12, rfl⟩ : ∃ a n c, v = .slice a n c := by obtain ⟨a, c, e⟩ := hR.form; exact ⟨a, _, c, e⟩
    replace S := S.cons hR
    obtain ⟨Y13, hZ⟩ : ∃ Z : Later Y9.w, Z.w = y.w := ⟨Y11.step (y), rfl⟩
    rw [← hZ] at S hs l1 ⊢
    clear hZ
    clear y hR
    have p_0 := l1.cell (k := 0) rfl
    have p_1 := l1.cell (k := 1) rfl
    have p_2 := l1.cell (k := 2) rfl
    have p_l := l1.lt
    go_wp2
    clear p_0 p_1 p_2 p_l
    go_loopw [19] (fun i0 wr => ∃ (k : Nat) (u : Later Y13.w), wr = u.w ∧ k ≤ n ∧ i0 = .int .i64 k ∧ Hid (∀ j, j < k → (j ∈ N ↔ j ∈ brightF L n))) (fun i0 _ => n - (intOf i0).toNat)
    case atStart => exact ⟨0, Later.self _, rfl, Nat.zero_le _, rfl, Lib.hid (fun j hj => absurd hj (Nat.not_lt_zero _))⟩
    obtain ⟨k, u, rfl, hk, rfl, hJ⟩ := hrel
    replace hs := hs.later u
    replace l1 := l1.later u
    replace S := S.later u
    by_cases hlt : k < n
    · have hf := HFST.out k hlt hJ.out
      have hh1 := has_nat N k
      have hh2 := has_nat (brightF L n) k
      by_cases c1 : k ∈ N
      all_goals by_cases c2 : k ∈ brightF L n
      · rw [decide_eq_true c1] at hh1
        rw [decide_eq_true c2] at hh2
        have HH1 := Lib.hid hh1
        have HH2 := Lib.hid hh2
        clear hh1 hh2
        have HJ := Lib.hid (show ∀ j, j < k + 1 → (j ∈ N ↔ j ∈ brightF L n) from fun j hj => by
          by_cases h : j = k
          · rw [h]; exact ⟨fun _ => by first | exact c2 | exact absurd (by assumption) c1, fun _ => by first | exact c1 | exact absurd (by assumption) c2⟩
          · exact hJ.out j (by omega))
        clear hf c1 c2
        have q0_0 := l1.cell (k := 0) rfl
        have q0_1 := l1.cell (k := 1) rfl
        have q0_2 := l1.cell (k := 2) rfl
        have q0_l := l1.lt
        go_wp2_with fail
        clear q0_0 q0_1 q0_2 q0_l
        refine (Has_calls _ (natV N) k _ (S.at (v := .slice a10 nl c10) (xs := (natV N)) (by simp))).mono ?_
        rintro e w' ⟨rfl, rfl⟩
        rw [HH1.out]
        go_wp2_with fail
        refine (Has_calls _ (natV (brightF L n)) k _ (S.at (v := .slice a4 n c4) (xs := (natV (brightF L n))) (by simp))).mono ?_
        rintro e w' ⟨rfl, rfl⟩
        rw [HH2.out]
        go_wp2
        go_roundw
        case rel => exact ⟨k + 1, u, rfl, by omega, by go_num, HJ⟩
        case measure => simp [intOf]; omega
      · rw [decide_eq_true c1] at hh1
        rw [decide_eq_false c2] at hh2
        have HH1 := Lib.hid hh1
        have HH2 := Lib.hid hh2
        clear hh1 hh2
        exact absurd (hf c1) c2
      · rw [decide_eq_false c1] at hh1
        rw [decide_eq_true c2] at hh2
        have HH1 := Lib.hid hh1
        have HH2 := Lib.hid hh2
        clear hh1 hh2
        clear hf c1 c2
        have q0_0 := l1.cell (k := 0) rfl
        have q0_1 := l1.cell (k := 1) rfl
        have q0_2 := l1.cell (k := 2) rfl
        have q0_l := l1.lt
        go_wp2_with fail
        clear q0_0 q0_1 q0_2 q0_l
        refine (Has_calls _ (natV N) k _ (S.at (v := .slice a10 nl c10) (xs := (natV N)) (by simp))).mono ?_
        rintro e w' ⟨rfl, rfl⟩
        rw [HH1.out]
        go_wp2_with fail
        refine (Has_calls _ (natV (brightF L n)) k _ (S.at (v := .slice a4 n c4) (xs := (natV (brightF L n))) (by simp))).mono ?_
        rintro e w' ⟨rfl, rfl⟩
        rw [HH2.out]
        go_wp2_with fail
        refine (Has_calls _ (natV (brightF L n)) k _ (S.at (v := .slice a4 n c4) (xs := (natV (brightF L n))) (by simp))).mono ?_
        rintro e w' ⟨rfl, rfl⟩
        rw [HH2.out]
        go_wp2_with fail
        refine (Works_calls _).mono ?_
        rintro e w' ⟨rfl, y, rfl⟩
        go_wp2
        go_ret
        exact ⟨rfl, Y9.step (Y13.step (u.step (y))), rfl⟩
      · rw [decide_eq_false c1] at hh1
        rw [decide_eq_false c2] at hh2
        have HH1 := Lib.hid hh1
        have HH2 := Lib.hid hh2
        clear hh1 hh2
        have HJ := Lib.hid (show ∀ j, j < k + 1 → (j ∈ N ↔ j ∈ brightF L n) from fun j hj => by
          by_cases h : j = k
          · rw [h]; exact ⟨fun _ => by first | exact c2 | exact absurd (by assumption) c1, fun _ => by first | exact c1 | exact absurd (by assumption) c2⟩
          · exact hJ.out j (by omega))
        clear hf c1 c2
        have q0_0 := l1.cell (k := 0) rfl
        have q0_1 := l1.cell (k := 1) rfl
        have q0_2 := l1.cell (k := 2) rfl
        have q0_l := l1.lt
        go_wp2_with fail
        clear q0_0 q0_1 q0_2 q0_l
        refine (Has_calls _ (natV N) k _ (S.at (v := .slice a10 nl c10) (xs := (natV N)) (by simp))).mono ?_
        rintro e w' ⟨rfl, rfl⟩
        rw [HH1.out]
        go_wp2_with fail
        refine (Has_calls _ (natV (brightF L n)) k _ (S.at (v := .slice a4 n c4) (xs := (natV (brightF L n))) (by simp))).mono ?_
        rintro e w' ⟨rfl, rfl⟩
        rw [HH2.out]
        go_wp2
        go_roundw
        case rel => exact ⟨k + 1, u, rfl, by omega, by go_num, HJ⟩
        case measure => simp [intOf]; omega
    obtain rfl : n = k := by omega
    have q0_0 := l1.cell (k := 0) rfl
    have q0_1 := l1.cell (k := 1) rfl
    have q0_2 := l1.cell (k := 2) rfl
    have q0_l := l1.lt
    go_wp2_with fail
    clear q0_0 q0_1 q0_2 q0_l
    refine (Works_calls _).mono ?_
    rintro e w' ⟨rfl, y, rfl⟩
    go_wp2
    go_ret
    exact ⟨rfl, Y9.step (Y13.step (u.step (y))), rfl⟩
  · have hBn : ((BL : Int) == (n : Int)) = false := by simp; omega
    have q0_0 := l1.cell (k := 0) rfl
    have q0_1 := l1.cell (k := 1) rfl
    have q0_2 := l1.cell (k := 2) rfl
    have q0_l := l1.lt
    go_wp2_with fail
    clear q0_0 q0_1 q0_2 q0_l
    refine (Named_calls n _ _ _ ms cs (natV (brightF L n)) _ hs (S.at (v := .slice a4 BL c4) (xs := (natV (brightF L n))) (by simp))).mono ?_
    rintro e w' ⟨rfl, y, rfl⟩
    rw [F2.out]
    replace hs := hs.later y
    replace l1 := l1.later y
    replace S := S.later y
    obtain ⟨Y7, hZ⟩ : ∃ Z : Later W, Z.w = y.w := ⟨Y6.step (y), rfl⟩
    rw [← hZ] at S hs l1 ⊢
    clear hZ
    clear y
    have q0_0 := l1.cell (k := 0) rfl
    have q0_1 := l1.cell (k := 1) rfl
    have q0_2 := l1.cell (k := 2) rfl
    have q0_l := l1.lt
    go_wp2_with fail
    clear q0_0 q0_1 q0_2 q0_l
    refine (Set_any n _ _ _ ms cs (natV (brightF L n)) _ hs (S.at (v := .slice a4 BL c4) (xs := (natV (brightF L n))) (by simp))).mono ?_
    rintro e w' ⟨v, y, rfl, rfl, hR⟩
    rw [F7.out]
    replace hs := hs.later y
    replace l1 := l1.later y
    replace S := S.later y
    obtain ⟨a8, n8, c8, rfl⟩ : ∃ a n c, v = .slice a n c := by obtain ⟨a, c, e⟩ := hR.form; exact ⟨a, _, c, e⟩
    replace S := S.cons hR
    obtain ⟨Y9, hZ⟩ : ∃ Z : Later W, Z.w = y.w := ⟨Y7.step (y), rfl⟩
    rw [← hZ] at S hs l1 ⊢
    clear hZ
    clear y hR
    have p_0 := l1.cell (k := 0) rfl
    have p_1 := l1.cell (k := 1) rfl
    have p_2 := l1.cell (k := 2) rfl
    have p_l := l1.lt
    go_wp2
    clear p_0 p_1 p_2 p_l
    go_loopw [11, 12, 13, 14, 15, 16, 17] (fun tv i0 _ _ _ _ _ wr => ∃ (k : Nat) (u : Later Y9.w), wr = u.w ∧ k ≤ n ∧ i0 = .int .i64 k ∧ Ints u.w tv (natV (brightF L k))) (fun _ i0 _ _ _ _ _ _ => n - (intOf i0).toNat)
    case atStart => exact ⟨0, Later.self _, rfl, Nat.zero_le _, rfl, by rw [show natV (brightF L 0) = [] by simp [brightF, natV]]; exact Ints.nil _ _⟩
    obtain ⟨k, u, rfl, hk, rfl, hO⟩ := hrel
    obtain ⟨ao, no, co, rfl⟩ : ∃ a n c, _ = Value.slice a n c := by obtain ⟨a, c, e⟩ := hO.form; exact ⟨a, _, c, e⟩
    replace hs := hs.later u
    replace l1 := l1.later u
    replace S := S.later u
    by_cases hlt : k < n
    · have S := S.cons hO
      clear hO
      have hbl : (brightF L k).length ≤ k := bright_len L k
      by_cases hin : k ∈ brightF L n
      · obtain ⟨g1, g2⟩ := F8.out k hlt hin
        have G1 := Lib.hid g1
        have G2 := Lib.hid g2
        clear g1 g2
        have HH := Lib.hid (show hasB (natV (brightF L n)) (k : Int) = true by rw [has_nat]; exact decide_eq_true hin)
        have q0_0 := l1.cell (k := 0) rfl
        have q0_1 := l1.cell (k := 1) rfl
        have q0_2 := l1.cell (k := 2) rfl
        have q0_l := l1.lt
        go_wp2_with fail
        clear q0_0 q0_1 q0_2 q0_l
        refine (Why_any n _ _ ms cs _ hs k).mono ?_
        rintro e w' ⟨v, y, lq, rfl, rfl, hR, hC, hD⟩
        rw [G1.out] at hC hD ⊢
        clear hC hD
        replace hs := hs.later y
        replace l1 := l1.later y
        replace S := S.later y
        obtain ⟨a10, n10, c10, rfl⟩ : ∃ a n c, v = .slice a n c := by obtain ⟨a, c, e⟩ := hR.form; exact ⟨a, _, c, e⟩
        replace S := S.cons hR
        obtain ⟨Y11, hZ⟩ : ∃ Z : Later Y9.w, Z.w = y.w := ⟨u.step (y), rfl⟩
        rw [← hZ] at S hs l1 ⊢
        clear hZ
        clear y hR
        have hO1 := (S.at (v := .slice ao no co) (xs := (natV (brightF L k))) (by simp))
        have hE := IntsM.empty Y11.w (lo := Y11.w.heap.size) rfl (Nat.le_refl _)
        have hO2 := hO1.later (Later.new Y11.w (.cells #[] 3))
        rw [Later.new_w] at hO2
        obtain ⟨a1', n1', c1', q1, hr1, hA1⟩ := app_emptyM hE hO2 (by simp) (by rw [natV_len]; omega) 23
        have HR1 := Lib.hid hr1
        obtain ⟨v2, q2, hr2, hA2, -⟩ := app_int_stepM (W := Y11.w) ((Later.new Y11.w (.cells #[] 3)).step q1).le hA1 (k : Int) (by rw [natV_len]; omega) 23
        obtain ⟨a2', n2', c2', rfl⟩ := hA2.form'
        have HR2 := Lib.hid hr2
        have hW := hA2.ints (by rw [List.length_append, natV_len]; simp; omega)
        rw [show natV (brightF L k) ++ [(k : Int)] = natV (brightF L k ++ [k]) by simp [natV]] at hW
        clear hO1 hO2 hE hr1 hr2 hA1 hA2
        go_wp2_with (first | ((with_reducible show wpList _ _ _ (⟨some 98, _, _, _, _, _⟩ :: _) _ _); refine Lib.wpList_append_run_sl _ rfl _ _ 23 rfl _ _ rfl rfl HR1.out ?_) | ((with_reducible show wpList _ _ _ (⟨some 101, _, _, _, _, _⟩ :: _) _ _); refine Lib.wpList_append_run_sl _ rfl _ _ 23 rfl _ _ rfl rfl HR2.out ?_))
        replace hs := hs.later q2
        replace l1 := l1.later q2
        replace S := (S.later q2).cons hW
        clear hW
        obtain ⟨Y12, hZ⟩ : ∃ Z : Later Y9.w, Z.w = q2.w := ⟨Y11.step (q2), rfl⟩
        rw [← hZ] at S hs l1 ⊢
        clear hZ
        refine (Has_calls _ (natV (brightF L n)) k _ (S.at (v := .slice a4 BL c4) (xs := (natV (brightF L n))) (by simp))).mono ?_
        rintro e w' ⟨rfl, rfl⟩
        rw [HH.out]
        go_wp2
        go_roundw
        case rel => first | exact ⟨k + 1, Y12, rfl, by omega, by go_num, by rw [G2.out]; exact (S.at (v := .slice a2' n2' c2') (xs := (natV (brightF L k ++ [k]))) (by simp))⟩ | ((repeat apply Exists.intro); exact ⟨⟨k + 1, Y12, rfl, by omega, by go_num, by rw [G2.out]; exact (S.at (v := .slice a2' n2' c2') (xs := (natV (brightF L k ++ [k]))) (by simp))⟩, rfl⟩)
        case measure => simp [intOf]; omega
      · obtain ⟨g1, g2, g3, g4⟩ := F9.out k hlt hin
        have G1 := Lib.hid g1
        have G2 := Lib.hid g3
        have G3 := Lib.hid g2
        have G4 := Lib.hid g4
        clear g1 g2 g3 g4
        have HH := Lib.hid (show hasB (natV (brightF L n)) (k : Int) = false by rw [has_nat]; exact decide_eq_false hin)
        have q0_0 := l1.cell (k := 0) rfl
        have q0_1 := l1.cell (k := 1) rfl
        have q0_2 := l1.cell (k := 2) rfl
        have q0_l := l1.lt
        go_wp2_with fail
        clear q0_0 q0_1 q0_2 q0_l
        refine (Why_any n _ _ ms cs _ hs k).mono ?_
        rintro e w' ⟨v, y, lq, rfl, rfl, hR, hC, hD⟩
        rw [G1.out] at hC hD ⊢
        have HC := Lib.hid (hC rfl).1
        rw [G3.out] at HC
        clear hC hD
        replace hs := hs.later y
        replace l1 := l1.later y
        replace S := S.later y
        obtain ⟨a10, n10, c10, rfl⟩ : ∃ a n c, v = .slice a n c := by obtain ⟨a, c, e⟩ := hR.form; exact ⟨a, _, c, e⟩
        replace S := S.cons hR
        obtain ⟨Y11, hZ⟩ : ∃ Z : Later Y9.w, Z.w = y.w := ⟨u.step (y), rfl⟩
        rw [← hZ] at S hs l1 ⊢
        clear hZ
        clear y hR
        have hO1 := (S.at (v := .slice ao no co) (xs := (natV (brightF L k))) (by simp))
        have hE := IntsM.empty Y11.w (lo := Y11.w.heap.size) rfl (Nat.le_refl _)
        have hO2 := hO1.later (Later.new Y11.w (.cells #[] 3))
        rw [Later.new_w] at hO2
        obtain ⟨a1', n1', c1', q1, hr1, hA1⟩ := app_emptyM hE hO2 (by simp) (by rw [natV_len]; omega) 23
        have HR1 := Lib.hid hr1
        obtain ⟨v2, q2, hr2, hA2, -⟩ := app_int_stepM (W := Y11.w) ((Later.new Y11.w (.cells #[] 3)).step q1).le hA1 (k : Int) (by rw [natV_len]; omega) 23
        obtain ⟨a2', n2', c2', rfl⟩ := hA2.form'
        have HR2 := Lib.hid hr2
        have hW := hA2.ints (by rw [List.length_append, natV_len]; simp; omega)
        rw [show natV (brightF L k) ++ [(k : Int)] = natV (brightF L k ++ [k]) by simp [natV]] at hW
        clear hO1 hO2 hE hr1 hr2 hA1 hA2
        go_wp2_with (first | ((with_reducible show wpList _ _ _ (⟨some 98, _, _, _, _, _⟩ :: _) _ _); refine Lib.wpList_append_run_sl _ rfl _ _ 23 rfl _ _ rfl rfl HR1.out ?_) | ((with_reducible show wpList _ _ _ (⟨some 101, _, _, _, _, _⟩ :: _) _ _); refine Lib.wpList_append_run_sl _ rfl _ _ 23 rfl _ _ rfl rfl HR2.out ?_))
        replace hs := hs.later q2
        replace l1 := l1.later q2
        replace S := (S.later q2).cons hW
        clear hW
        obtain ⟨Y12, hZ⟩ : ∃ Z : Later Y9.w, Z.w = q2.w := ⟨Y11.step (q2), rfl⟩
        rw [← hZ] at S hs l1 ⊢
        clear hZ
        refine (Has_calls _ (natV (brightF L n)) k _ (S.at (v := .slice a4 BL c4) (xs := (natV (brightF L n))) (by simp))).mono ?_
        rintro e w' ⟨rfl, rfl⟩
        rw [HH.out]
        have q0_0 := l1.cell (k := 0) rfl
        have q0_1 := l1.cell (k := 1) rfl
        have q0_2 := l1.cell (k := 2) rfl
        have q0_l := l1.lt
        go_wp2_with fail
        clear q0_0 q0_1 q0_2 q0_l
        refine (Set_any n _ _ _ ms cs (natV (brightF L k ++ [k])) _ hs (S.at (v := .slice a2' n2' c2') (xs := (natV (brightF L k ++ [k]))) (by simp))).mono ?_
        rintro e w' ⟨v, y, rfl, rfl, hR⟩
        rw [G4.out]
        replace hs := hs.later y
        replace l1 := l1.later y
        replace S := S.later y
        obtain ⟨a13, n13, c13, rfl⟩ : ∃ a n c, v = .slice a n c := by obtain ⟨a, c, e⟩ := hR.form; exact ⟨a, _, c, e⟩
        replace S := S.cons hR
        obtain ⟨Y14, hZ⟩ : ∃ Z : Later Y9.w, Z.w = y.w := ⟨Y12.step (y), rfl⟩
        rw [← hZ] at S hs l1 ⊢
        clear hZ
        clear y hR
        have q0_0 := l1.cell (k := 0) rfl
        have q0_1 := l1.cell (k := 1) rfl
        have q0_2 := l1.cell (k := 2) rfl
        have q0_l := l1.lt
        go_wp2_with fail
        clear q0_0 q0_1 q0_2 q0_l
        refine (CheckChain_any n _ _ _ ms cs (natV (brightF L k ++ [k])) _ hs (S.at (v := .slice a2' n2' c2') (xs := (natV (brightF L k ++ [k]))) (by simp)) _ lq (S.at (v := .slice a10 n10 c10) (xs := lq) (by simp))).mono ?_
        rintro e w' ⟨rfl, y, rfl⟩
        rw [HC.out]
        replace hs := hs.later y
        replace l1 := l1.later y
        replace S := S.later y
        obtain ⟨Y15, hZ⟩ : ∃ Z : Later Y9.w, Z.w = y.w := ⟨Y14.step (y), rfl⟩
        rw [← hZ] at S hs l1 ⊢
        clear hZ
        clear y
        have q0_0 := l1.cell (k := 0) rfl
        have q0_1 := l1.cell (k := 1) rfl
        have q0_2 := l1.cell (k := 2) rfl
        have q0_l := l1.lt
        go_wp2_with fail
        clear q0_0 q0_1 q0_2 q0_l
        refine (refCheckChain_any n _ _ _ ms cs (natV (brightF L k ++ [k])) _ hs (S.at (v := .slice a2' n2' c2') (xs := (natV (brightF L k ++ [k]))) (by simp)) _ lq (S.at (v := .slice a10 n10 c10) (xs := lq) (by simp))).mono ?_
        rintro e w' ⟨rfl, y, rfl⟩
        rw [HC.out]
        replace hs := hs.later y
        replace l1 := l1.later y
        replace S := S.later y
        obtain ⟨Y16, hZ⟩ : ∃ Z : Later Y9.w, Z.w = y.w := ⟨Y15.step (y), rfl⟩
        rw [← hZ] at S hs l1 ⊢
        clear hZ
        clear y
        go_wp2
        go_roundw
        case rel => first | exact ⟨k + 1, Y16, rfl, by omega, by go_num, by rw [G2.out]; exact (S.at (v := .slice ao no co) (xs := (natV (brightF L k))) (by simp))⟩ | ((repeat apply Exists.intro); exact ⟨⟨k + 1, Y16, rfl, by omega, by go_num, by rw [G2.out]; exact (S.at (v := .slice ao no co) (xs := (natV (brightF L k))) (by simp))⟩, rfl⟩)
        case measure => simp [intOf]; omega
    obtain rfl : n = k := by omega
    clear hO
    have q0_0 := l1.cell (k := 0) rfl
    have q0_1 := l1.cell (k := 1) rfl
    have q0_2 := l1.cell (k := 2) rfl
    have q0_l := l1.lt
    go_wp2_with fail
    clear q0_0 q0_1 q0_2 q0_l
    refine (Some_calls n b _ _ ms cs h10 _ hs).mono ?_
    rintro e w' ⟨v, y, rfl, rfl, hR⟩
    rw [HND.out] at hR
    replace hs := hs.later y
    replace l1 := l1.later y
    replace S := S.later y
    obtain ⟨a10, n10, c10, rfl⟩ : ∃ a n c, v = .slice a n c := by obtain ⟨a, c, e⟩ := hR.form; exact ⟨a, _, c, e⟩
    replace S := S.cons hR
    obtain ⟨Y11, hZ⟩ : ∃ Z : Later Y9.w, Z.w = y.w := ⟨u.step (y), rfl⟩
    rw [← hZ] at S hs l1 ⊢
    clear hZ
    clear y hR
    obtain rfl : nl = n10 := by obtain ⟨a, c, e⟩ := (S.at (v := .slice a10 n10 c10) (xs := (natV N)) (by simp)).form; cases e; exact (by rw [natV_len, HNL.out])
    rcases set_can HS.out HN.out with hcan | hcan
    rotate_left
    · have HG := Lib.hid (show setEI n ms cs (natV N) = 18 by rw [HMS.out, HCS.out]; exact hcan.1)
      clear hcan
      have q0_0 := l1.cell (k := 0) rfl
      have q0_1 := l1.cell (k := 1) rfl
      have q0_2 := l1.cell (k := 2) rfl
      have q0_l := l1.lt
      go_wp2_with fail
      clear q0_0 q0_1 q0_2 q0_l
      refine (Set_any n _ _ _ ms cs (natV N) _ hs (S.at (v := .slice a10 nl c10) (xs := (natV N)) (by simp))).mono ?_
      rintro e w' ⟨v, y, rfl, rfl, hR⟩
      rw [HG.out]
      replace hs := hs.later y
      replace l1 := l1.later y
      replace S := S.later y
      obtain ⟨a12, n12, c12, rfl⟩ : ∃ a n c, v = .slice a n c := by obtain ⟨a, c, e⟩ := hR.form; exact ⟨a, _, c, e⟩
      replace S := S.cons hR
      obtain ⟨Y13, hZ⟩ : ∃ Z : Later Y9.w, Z.w = y.w := ⟨Y11.step (y), rfl⟩
      rw [← hZ] at S hs l1 ⊢
      clear hZ
      clear y hR
      go_wp2_with fail
      refine (Works_calls _).mono ?_
      rintro e w' ⟨rfl, y, rfl⟩
      go_wp2
      go_ret
      exact ⟨rfl, Y9.step (Y13.step (y)), rfl⟩
    have HG := Lib.hid (show setEI n ms cs (natV N) = 0 by rw [HMS.out, HCS.out]; exact hcan.1)
    obtain ⟨hnm, hfst⟩ := F10.out N HN.out HG.out
    rw [HNL.out] at hnm
    have HFST := Lib.hid hfst
    clear hcan hfst
    have q0_0 := l1.cell (k := 0) rfl
    have q0_1 := l1.cell (k := 1) rfl
    have q0_2 := l1.cell (k := 2) rfl
    have q0_l := l1.lt
    go_wp2_with fail
    clear q0_0 q0_1 q0_2 q0_l
    refine (Set_any n _ _ _ ms cs (natV N) _ hs (S.at (v := .slice a10 nl c10) (xs := (natV N)) (by simp))).mono ?_
    rintro e w' ⟨v, y, rfl, rfl, hR⟩
    rw [HG.out]
    replace hs := hs.later y
    replace l1 := l1.later y
    replace S := S.later y
    obtain ⟨a12, n12, c12, rfl⟩ : ∃ a n c, v = .slice a n c := by obtain ⟨a, c, e⟩ := hR.form; exact ⟨a, _, c, e⟩
    replace S := S.cons hR
    obtain ⟨Y13, hZ⟩ : ∃ Z : Later Y9.w, Z.w = y.w := ⟨Y11.step (y), rfl⟩
    rw [← hZ] at S hs l1 ⊢
    clear hZ
    clear y hR
    have p_0 := l1.cell (k := 0) rfl
    have p_1 := l1.cell (k := 1) rfl
    have p_2 := l1.cell (k := 2) rfl
    have p_l := l1.lt
    go_wp2
    clear p_0 p_1 p_2 p_l
    go_loopw [19] (fun i0 wr => ∃ (k : Nat) (u : Later Y13.w), wr = u.w ∧ k ≤ n ∧ i0 = .int .i64 k ∧ Hid (∀ j, j < k → (j ∈ N ↔ j ∈ brightF L n))) (fun i0 _ => n - (intOf i0).toNat)
    case atStart => exact ⟨0, Later.self _, rfl, Nat.zero_le _, rfl, Lib.hid (fun j hj => absurd hj (Nat.not_lt_zero _))⟩
    obtain ⟨k, u, rfl, hk, rfl, hJ⟩ := hrel
    replace hs := hs.later u
    replace l1 := l1.later u
    replace S := S.later u
    by_cases hlt : k < n
    · have hf := HFST.out k hlt hJ.out
      have hh1 := has_nat N k
      have hh2 := has_nat (brightF L n) k
      by_cases c1 : k ∈ N
      all_goals by_cases c2 : k ∈ brightF L n
      · rw [decide_eq_true c1] at hh1
        rw [decide_eq_true c2] at hh2
        have HH1 := Lib.hid hh1
        have HH2 := Lib.hid hh2
        clear hh1 hh2
        have HJ := Lib.hid (show ∀ j, j < k + 1 → (j ∈ N ↔ j ∈ brightF L n) from fun j hj => by
          by_cases h : j = k
          · rw [h]; exact ⟨fun _ => by first | exact c2 | exact absurd (by assumption) c1, fun _ => by first | exact c1 | exact absurd (by assumption) c2⟩
          · exact hJ.out j (by omega))
        clear hf c1 c2
        have q0_0 := l1.cell (k := 0) rfl
        have q0_1 := l1.cell (k := 1) rfl
        have q0_2 := l1.cell (k := 2) rfl
        have q0_l := l1.lt
        go_wp2_with fail
        clear q0_0 q0_1 q0_2 q0_l
        refine (Has_calls _ (natV N) k _ (S.at (v := .slice a10 nl c10) (xs := (natV N)) (by simp))).mono ?_
        rintro e w' ⟨rfl, rfl⟩
        rw [HH1.out]
        go_wp2_with fail
        refine (Has_calls _ (natV (brightF L n)) k _ (S.at (v := .slice a4 BL c4) (xs := (natV (brightF L n))) (by simp))).mono ?_
        rintro e w' ⟨rfl, rfl⟩
        rw [HH2.out]
        go_wp2
        go_roundw
        case rel => exact ⟨k + 1, u, rfl, by omega, by go_num, HJ⟩
        case measure => simp [intOf]; omega
      · rw [decide_eq_true c1] at hh1
        rw [decide_eq_false c2] at hh2
        have HH1 := Lib.hid hh1
        have HH2 := Lib.hid hh2
        clear hh1 hh2
        exact absurd (hf c1) c2
      · rw [decide_eq_false c1] at hh1
        rw [decide_eq_true c2] at hh2
        have HH1 := Lib.hid hh1
        have HH2 := Lib.hid hh2
        clear hh1 hh2
        clear hf c1 c2
        have q0_0 := l1.cell (k := 0) rfl
        have q0_1 := l1.cell (k := 1) rfl
        have q0_2 := l1.cell (k := 2) rfl
        have q0_l := l1.lt
        go_wp2_with fail
        clear q0_0 q0_1 q0_2 q0_l
        refine (Has_calls _ (natV N) k _ (S.at (v := .slice a10 nl c10) (xs := (natV N)) (by simp))).mono ?_
        rintro e w' ⟨rfl, rfl⟩
        rw [HH1.out]
        go_wp2_with fail
        refine (Has_calls _ (natV (brightF L n)) k _ (S.at (v := .slice a4 BL c4) (xs := (natV (brightF L n))) (by simp))).mono ?_
        rintro e w' ⟨rfl, rfl⟩
        rw [HH2.out]
        go_wp2_with fail
        refine (Has_calls _ (natV (brightF L n)) k _ (S.at (v := .slice a4 BL c4) (xs := (natV (brightF L n))) (by simp))).mono ?_
        rintro e w' ⟨rfl, rfl⟩
        rw [HH2.out]
        go_wp2_with fail
        refine (Works_calls _).mono ?_
        rintro e w' ⟨rfl, y, rfl⟩
        go_wp2
        go_ret
        exact ⟨rfl, Y9.step (Y13.step (u.step (y))), rfl⟩
      · rw [decide_eq_false c1] at hh1
        rw [decide_eq_false c2] at hh2
        have HH1 := Lib.hid hh1
        have HH2 := Lib.hid hh2
        clear hh1 hh2
        have HJ := Lib.hid (show ∀ j, j < k + 1 → (j ∈ N ↔ j ∈ brightF L n) from fun j hj => by
          by_cases h : j = k
          · rw [h]; exact ⟨fun _ => by first | exact c2 | exact absurd (by assumption) c1, fun _ => by first | exact c1 | exact absurd (by assumption) c2⟩
          · exact hJ.out j (by omega))
        clear hf c1 c2
        have q0_0 := l1.cell (k := 0) rfl
        have q0_1 := l1.cell (k := 1) rfl
        have q0_2 := l1.cell (k := 2) rfl
        have q0_l := l1.lt
        go_wp2_with fail
        clear q0_0 q0_1 q0_2 q0_l
        refine (Has_calls _ (natV N) k _ (S.at (v := .slice a10 nl c10) (xs := (natV N)) (by simp))).mono ?_
        rintro e w' ⟨rfl, rfl⟩
        rw [HH1.out]
        go_wp2_with fail
        refine (Has_calls _ (natV (brightF L n)) k _ (S.at (v := .slice a4 BL c4) (xs := (natV (brightF L n))) (by simp))).mono ?_
        rintro e w' ⟨rfl, rfl⟩
        rw [HH2.out]
        go_wp2
        go_roundw
        case rel => exact ⟨k + 1, u, rfl, by omega, by go_num, HJ⟩
        case measure => simp [intOf]; omega
    obtain rfl : n = k := by omega
    have q0_0 := l1.cell (k := 0) rfl
    have q0_1 := l1.cell (k := 1) rfl
    have q0_2 := l1.cell (k := 2) rfl
    have q0_l := l1.lt
    go_wp2_with fail
    clear q0_0 q0_1 q0_2 q0_l
    refine (Works_calls _).mono ?_
    rintro e w' ⟨rfl, y, rfl⟩
    go_wp2
    go_ret
    exact ⟨rfl, Y9.step (Y13.step (u.step (y))), rfl⟩
end Go.Proofs.Ytdhdpbnlhnodjaa
