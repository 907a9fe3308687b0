import Derived.Test.YtdhdpbnlhnodjaaBoxS
import Derived.Test.YtdhdpbnlhnodjaaApaS
/-  NameApart. -/
namespace Go.Proofs.Ytdhdpbnlhnodjaa
open Go.RowKit
/-- the meetings of both sheets, as far as the second's are gone through -/
def apM (n : Nat) (m1 m2 : List (Nat × Nat)) (k : Nat) : List (Int × Int) := (m1 ++ (m2.take k).map (shM n)).map prI
def apC (n : Nat) (c1 c2 : List Nat) (k : Nat) : List Int := (c1 ++ (c2.take k).map (· + 2 * n)).map fun (c : Nat) => (c : Int)
theorem apM_zero (n : Nat) (m1 m2 : List (Nat × Nat)) : apM n m1 m2 0 = m1.map prI := by simp [apM]
theorem apC_zero (n : Nat) (c1 c2 : List Nat) : apC n c1 c2 0 = c1.map fun (c : Nat) => (c : Int) := by simp [apC]
theorem apM_succ (n : Nat) (m1 m2 : List (Nat × Nat)) {k : Nat} (hk : k < m2.length) : apM n m1 m2 (k + 1) = apM n m1 m2 k ++ [(((m2[k].1 + 2 * n : Nat) : Int), ((m2[k].2 + 2 * n : Nat) : Int))] := by
  rw [apM, apM, List.take_succ_eq_append_getElem hk, List.map_append (f := shM n), ← List.append_assoc, List.map_append (f := prI)]; rfl
theorem apC_succ (n : Nat) (c1 c2 : List Nat) {k : Nat} (hk : k < c2.length) : apC n c1 c2 (k + 1) = apC n c1 c2 k ++ [((c2[k] + 2 * n : Nat) : Int)] := by
  rw [apC, apC, List.take_succ_eq_append_getElem hk, List.map_append (f := (· + 2 * n)), ← List.append_assoc, List.map_append (f := fun (c : Nat) => (c : Int))]; rfl
theorem apM_len (n : Nat) (m1 m2 : List (Nat × Nat)) (k : Nat) : (apM n m1 m2 k).length ≤ m1.length + m2.length := by simp [apM]; omega
theorem apC_len (n : Nat) (c1 c2 : List Nat) (k : Nat) : (apC n c1 c2 k).length ≤ c1.length + c2.length := by simp [apC]; omega
theorem apM_all (n : Nat) (m1 m2 : List (Nat × Nat)) : apM n m1 m2 m2.length = (m1 ++ m2.map (shM n)).map prI := by rw [apM, List.take_length]
theorem apC_all (n : Nat) (c1 c2 : List Nat) : apC n c1 c2 c2.length = (c1 ++ c2.map (· + 2 * n)).map fun (c : Nat) => (c : Int) := by rw [apC, List.take_length]
theorem apart_big {n : Nat} {m : List (Nat × Nat)} {c : List Nat} (h : ¬ (m.length ≤ 40 ∧ c.length ≤ 20)) : fineB n (m.map prI) (c.map fun (c : Nat) => (c : Int)) = false := by
  refine decide_eq_false fun e => ?_
  rw [vsheet, if_pos (by simp; omega)] at e
  cases e
theorem apart_shn {n1 n2 : Nat} {m1 m2 : List (Nat × Nat)} {c1 c2 : List Nat} (h1 : Shn n1 m1 c1) (h2 : Shn n2 m2 c2) (h7 : n1 + n2 ≤ 7) (hl : (m1 ++ m2.map (shM n1)).length ≤ 40 ∧ (c1 ++ c2.map (· + 2 * n1)).length ≤ 20) : Shn (n1 + n2) (m1 ++ m2.map (shM n1)) (c1 ++ c2.map (· + 2 * n1)) :=
  ⟨by have := h1.n1; omega, by omega, hl.1, hl.2, fun m hm => by
    rcases List.mem_append.1 hm with h | h
    · have := h1.mr m h; omega
    · obtain ⟨x, hx, rfl⟩ := List.mem_map.1 h
      have := h2.mr x hx
      simp only [shM]; omega, fun m hm => by
    rcases List.mem_append.1 hm with h | h
    · exact h1.ne m h
    · obtain ⟨x, hx, rfl⟩ := List.mem_map.1 h
      have := h2.ne x hx
      simp only [shM]; omega, fun c hc => by
    rcases List.mem_append.1 hc with h | h
    · have := h1.cr c h; omega
    · obtain ⟨x, hx, rfl⟩ := List.mem_map.1 h
      have := h2.cr x hx
      omega⟩
set_option maxRecDepth 100000 in
set_option maxHeartbeats 8000000 in
theorem NameApart_calls (ni : Int) (mv cv : Value) (ms : List (Int × Int)) (cs : List Int) (nj : Int) (mw cw : Value) (mt : List (Int × Int)) (ct : List Int) (W : World) (hs : Sht W mv cv ms cs) (ht : Sht W mw cw mt ct) :
    Calls Try.prog 14 #[.agg #[.int .i64 ni, mv, cv], .agg #[.int .i64 nj, mw, cw]] W (Gives (.bool true) W) := by
  have S : Ins W [] := Ins.nil _
  obtain ⟨am, lm, cm, rfl⟩ : ∃ a n c, mv = .slice a n c := by obtain ⟨a, c, e⟩ := hs.m.form; exact ⟨a, _, c, e⟩
  obtain ⟨ac, lc, cc, rfl⟩ : ∃ a n c, cv = .slice a n c := by obtain ⟨a, c, e⟩ := hs.c.form; exact ⟨a, _, c, e⟩
  obtain ⟨am2, lm2, cm2, rfl⟩ : ∃ a n c, mw = .slice a n c := by obtain ⟨a, c, e⟩ := ht.m.form; exact ⟨a, _, c, e⟩
  obtain ⟨ac2, lc2, cc2, rfl⟩ : ∃ a n c, cw = .slice a n c := by obtain ⟨a, c, e⟩ := ht.c.form; exact ⟨a, _, c, e⟩
  by_cases hv : vsheet ni ms cs = 0
  rotate_left
  · have HF := Lib.hid (show fineB ni ms cs = false from decide_eq_false hv)
    clear hv
    go_enter Try.func14, Try.ntmps14
    go_wp2_with fail
    obtain ⟨B1, hb⟩ : ∃ b, b = W.heap.size := ⟨_, rfl⟩
    have l1 : Lin (W.alloc (.cells #[.int .i64 ni, .slice am lm cm, .slice ac lc cc] 25)) B1 25 [.int .i64 ni, .slice am lm cm, .slice ac lc cc] := by rw [hb]; exact Lin.new _ _ [.int .i64 ni, .slice am lm cm, .slice ac lc cc]
    replace S := S.later (Later.new _ (.cells #[.int .i64 ni, .slice am lm cm, .slice ac lc cc] 25))
    rw [Later.new_w] at S
    replace hs := hs.later (Later.new _ (.cells #[.int .i64 ni, .slice am lm cm, .slice ac lc cc] 25))
    rw [Later.new_w] at hs
    replace ht := ht.later (Later.new _ (.cells #[.int .i64 ni, .slice am lm cm, .slice ac lc cc] 25))
    rw [Later.new_w] at ht
    have hsz : (W.alloc (.cells #[.int .i64 ni, .slice am lm cm, .slice ac lc cc] 25)).heap.size = B1 + 1 := by rw [hb]; simp
    obtain ⟨Y2, hZ⟩ : ∃ Z : Later W, Z.w = W.alloc (.cells #[.int .i64 ni, .slice am lm cm, .slice ac lc cc] 25) := ⟨Later.new _ _, rfl⟩
    rw [← hZ] at S hsz hs ht l1 ⊢
    clear hZ
    rw [← hb]
    clear hb
    have hs2 := hsz
    rw [← hsz]
    clear hsz
    obtain ⟨B3, hb⟩ : ∃ b, b = Y2.w.heap.size := ⟨_, rfl⟩
    have l3 : Lin (Y2.w.alloc (.cells #[.int .i64 nj, .slice am2 lm2 cm2, .slice ac2 lc2 cc2] 25)) B3 25 [.int .i64 nj, .slice am2 lm2 cm2, .slice ac2 lc2 cc2] := by rw [hb]; exact Lin.new _ _ [.int .i64 nj, .slice am2 lm2 cm2, .slice ac2 lc2 cc2]
    replace S := S.later (Later.new _ (.cells #[.int .i64 nj, .slice am2 lm2 cm2, .slice ac2 lc2 cc2] 25))
    rw [Later.new_w] at S
    replace hs := hs.later (Later.new _ (.cells #[.int .i64 nj, .slice am2 lm2 cm2, .slice ac2 lc2 cc2] 25))
    rw [Later.new_w] at hs
    replace ht := ht.later (Later.new _ (.cells #[.int .i64 nj, .slice am2 lm2 cm2, .slice ac2 lc2 cc2] 25))
    rw [Later.new_w] at ht
    replace l1 := l1.later (Later.new _ (.cells #[.int .i64 nj, .slice am2 lm2 cm2, .slice ac2 lc2 cc2] 25))
    rw [Later.new_w] at l1
    have hsz : (Y2.w.alloc (.cells #[.int .i64 nj, .slice am2 lm2 cm2, .slice ac2 lc2 cc2] 25)).heap.size = B3 + 1 := by rw [hb]; simp
    obtain ⟨Y4, hZ⟩ : ∃ Z : Later W, Z.w = Y2.w.alloc (.cells #[.int .i64 nj, .slice am2 lm2 cm2, .slice ac2 lc2 cc2] 25) := ⟨Y2.step (Later.new _ _), rfl⟩
    rw [← hZ] at S hsz hs ht l1 l3 ⊢
    clear hZ
    rw [← hb]
    clear hb
    clear hs2 hsz
    refine (fine_calls ni _ _ ms cs _ hs).mono ?_
    rintro e w' ⟨rfl, y, rfl⟩
    rw [HF.out]
    replace hs := hs.later y
    replace ht := ht.later y
    replace l1 := l1.later y
    replace l3 := l3.later y
    replace S := S.later y
    obtain ⟨Y5, hZ⟩ : ∃ Z : Later W, Z.w = y.w := ⟨Y4.step (y), rfl⟩
    rw [← hZ] at S hs ht l1 l3 ⊢
    clear hZ
    clear y
    go_wp2_with fail
    refine (Works_calls _).mono ?_
    rintro e w' ⟨rfl, y, rfl⟩
    go_wp2
    go_ret
    exact ⟨rfl, Y5.step (y), rfl⟩
  obtain ⟨n, mn, cn, rfl, hms, hcs, hS⟩ := vsheet_nat hv
  have HF := Lib.hid (show fineB n ms cs = true from decide_eq_true hv)
  have HS := Lib.hid hS
  have HMS := Lib.hid hms
  have HCS := Lib.hid hcs
  have h1 := hS.n1
  have h10 := hS.n10
  have HML := Lib.hid (show lm = ms.length by obtain ⟨a, c, e⟩ := hs.m.form; cases e; rfl)
  have HCL := Lib.hid (show lc = cs.length by obtain ⟨a, c, e⟩ := hs.c.form; cases e; rfl)
  clear hv hms hcs hS
  by_cases hv : vsheet nj mt ct = 0
  rotate_left
  · have HF2 := Lib.hid (show fineB nj mt ct = false from decide_eq_false hv)
    clear hv
    go_enter Try.func14, Try.ntmps14
    go_wp2_with fail
    obtain ⟨B1, hb⟩ : ∃ b, b = W.heap.size := ⟨_, rfl⟩
    have l1 : Lin (W.alloc (.cells #[.int .i64 n, .slice am lm cm, .slice ac lc cc] 25)) B1 25 [.int .i64 n, .slice am lm cm, .slice ac lc cc] := by rw [hb]; exact Lin.new _ _ [.int .i64 n, .slice am lm cm, .slice ac lc cc]
    replace S := S.later (Later.new _ (.cells #[.int .i64 n, .slice am lm cm, .slice ac lc cc] 25))
    rw [Later.new_w] at S
    replace hs := hs.later (Later.new _ (.cells #[.int .i64 n, .slice am lm cm, .slice ac lc cc] 25))
    rw [Later.new_w] at hs
    replace ht := ht.later (Later.new _ (.cells #[.int .i64 n, .slice am lm cm, .slice ac lc cc] 25))
    rw [Later.new_w] at ht
    have hsz : (W.alloc (.cells #[.int .i64 n, .slice am lm cm, .slice ac lc cc] 25)).heap.size = B1 + 1 := by rw [hb]; simp
    obtain ⟨Y2, hZ⟩ : ∃ Z : Later W, Z.w = W.alloc (.cells #[.int .i64 n, .slice am lm cm, .slice ac lc cc] 25) := ⟨Later.new _ _, rfl⟩
    rw [← hZ] at S hsz hs ht l1 ⊢
    clear hZ
    rw [← hb]
    clear hb
    have hs2 := hsz
    rw [← hsz]
    clear hsz
    obtain ⟨B3, hb⟩ : ∃ b, b = Y2.w.heap.size := ⟨_, rfl⟩
    have l3 : Lin (Y2.w.alloc (.cells #[.int .i64 nj, .slice am2 lm2 cm2, .slice ac2 lc2 cc2] 25)) B3 25 [.int .i64 nj, .slice am2 lm2 cm2, .slice ac2 lc2 cc2] := by rw [hb]; exact Lin.new _ _ [.int .i64 nj, .slice am2 lm2 cm2, .slice ac2 lc2 cc2]
    replace S := S.later (Later.new _ (.cells #[.int .i64 nj, .slice am2 lm2 cm2, .slice ac2 lc2 cc2] 25))
    rw [Later.new_w] at S
    replace hs := hs.later (Later.new _ (.cells #[.int .i64 nj, .slice am2 lm2 cm2, .slice ac2 lc2 cc2] 25))
    rw [Later.new_w] at hs
    replace ht := ht.later (Later.new _ (.cells #[.int .i64 nj, .slice am2 lm2 cm2, .slice ac2 lc2 cc2] 25))
    rw [Later.new_w] at ht
    replace l1 := l1.later (Later.new _ (.cells #[.int .i64 nj, .slice am2 lm2 cm2, .slice ac2 lc2 cc2] 25))
    rw [Later.new_w] at l1
    have hsz : (Y2.w.alloc (.cells #[.int .i64 nj, .slice am2 lm2 cm2, .slice ac2 lc2 cc2] 25)).heap.size = B3 + 1 := by rw [hb]; simp
    obtain ⟨Y4, hZ⟩ : ∃ Z : Later W, Z.w = Y2.w.alloc (.cells #[.int .i64 nj, .slice am2 lm2 cm2, .slice ac2 lc2 cc2] 25) := ⟨Y2.step (Later.new _ _), rfl⟩
    rw [← hZ] at S hsz hs ht l1 l3 ⊢
    clear hZ
    rw [← hb]
    clear hb
    clear hs2 hsz
    refine (fine_calls n _ _ ms cs _ hs).mono ?_
    rintro e w' ⟨rfl, y, rfl⟩
    rw [HF.out]
    replace hs := hs.later y
    replace ht := ht.later y
    replace l1 := l1.later y
    replace l3 := l3.later y
    replace S := S.later y
    obtain ⟨Y5, hZ⟩ : ∃ Z : Later W, Z.w = y.w := ⟨Y4.step (y), rfl⟩
    rw [← hZ] at S hs ht l1 l3 ⊢
    clear hZ
    clear y
    have q0_0 := l1.cell (k := 0) rfl
    have q0_1 := l1.cell (k := 1) rfl
    have q0_2 := l1.cell (k := 2) rfl
    have q0_l := l1.lt
    have q1_0 := l3.cell (k := 0) rfl
    have q1_1 := l3.cell (k := 1) rfl
    have q1_2 := l3.cell (k := 2) rfl
    have q1_l := l3.lt
    go_wp2_with fail
    clear q0_0 q0_1 q0_2 q0_l
    clear q1_0 q1_1 q1_2 q1_l
    refine (fine_calls nj _ _ mt ct _ ht).mono ?_
    rintro e w' ⟨rfl, y, rfl⟩
    rw [HF2.out]
    replace hs := hs.later y
    replace ht := ht.later y
    replace l1 := l1.later y
    replace l3 := l3.later y
    replace S := S.later y
    obtain ⟨Y6, hZ⟩ : ∃ Z : Later W, Z.w = y.w := ⟨Y5.step (y), rfl⟩
    rw [← hZ] at S hs ht l1 l3 ⊢
    clear hZ
    clear y
    go_wp2_with fail
    refine (Works_calls _).mono ?_
    rintro e w' ⟨rfl, y, rfl⟩
    go_wp2
    go_ret
    exact ⟨rfl, Y6.step (y), rfl⟩
  obtain ⟨n2, mn2, cn2, rfl, hms, hcs, hS⟩ := vsheet_nat hv
  have HF2 := Lib.hid (show fineB n2 mt ct = true from decide_eq_true hv)
  have HS2 := Lib.hid hS
  have HMS2 := Lib.hid hms
  have HCS2 := Lib.hid hcs
  have h21 := hS.n1
  have h210 := hS.n10
  have HML2 := Lib.hid (show lm2 = mt.length by obtain ⟨a, c, e⟩ := ht.m.form; cases e; rfl)
  have HCL2 := Lib.hid (show lc2 = ct.length by obtain ⟨a, c, e⟩ := ht.c.form; cases e; rfl)
  clear hv hms hcs hS
  obtain ⟨nx, hnx⟩ : ∃ k : Nat, n + n2 = k := ⟨_, rfl⟩
  have hnxi : (n : Int) + (n2 : Int) = (nx : Int) := by omega
  have HNX := Lib.hid hnx
  by_cases h7 : 7 < nx
  · have d7 : decide ((7 : Int) < (nx : Int)) = true := decide_eq_true (by omega)
    go_enter Try.func14, Try.ntmps14
    go_wp2_with fail
    obtain ⟨B1, hb⟩ : ∃ b, b = W.heap.size := ⟨_, rfl⟩
    have l1 : Lin (W.alloc (.cells #[.int .i64 n, .slice am lm cm, .slice ac lc cc] 25)) B1 25 [.int .i64 n, .slice am lm cm, .slice ac lc cc] := by rw [hb]; exact Lin.new _ _ [.int .i64 n, .slice am lm cm, .slice ac lc cc]
    replace S := S.later (Later.new _ (.cells #[.int .i64 n, .slice am lm cm, .slice ac lc cc] 25))
    rw [Later.new_w] at S
    replace hs := hs.later (Later.new _ (.cells #[.int .i64 n, .slice am lm cm, .slice ac lc cc] 25))
    rw [Later.new_w] at hs
    replace ht := ht.later (Later.new _ (.cells #[.int .i64 n, .slice am lm cm, .slice ac lc cc] 25))
    rw [Later.new_w] at ht
    have hsz : (W.alloc (.cells #[.int .i64 n, .slice am lm cm, .slice ac lc cc] 25)).heap.size = B1 + 1 := by rw [hb]; simp
    obtain ⟨Y2, hZ⟩ : ∃ Z : Later W, Z.w = W.alloc (.cells #[.int .i64 n, .slice am lm cm, .slice ac lc cc] 25) := ⟨Later.new _ _, rfl⟩
    rw [← hZ] at S hsz hs ht l1 ⊢
    clear hZ
    rw [← hb]
    clear hb
    have hs2 := hsz
    rw [← hsz]
    clear hsz
    obtain ⟨B3, hb⟩ : ∃ b, b = Y2.w.heap.size := ⟨_, rfl⟩
    have l3 : Lin (Y2.w.alloc (.cells #[.int .i64 n2, .slice am2 lm2 cm2, .slice ac2 lc2 cc2] 25)) B3 25 [.int .i64 n2, .slice am2 lm2 cm2, .slice ac2 lc2 cc2] := by rw [hb]; exact Lin.new _ _ [.int .i64 n2, .slice am2 lm2 cm2, .slice ac2 lc2 cc2]
    replace S := S.later (Later.new _ (.cells #[.int .i64 n2, .slice am2 lm2 cm2, .slice ac2 lc2 cc2] 25))
    rw [Later.new_w] at S
    replace hs := hs.later (Later.new _ (.cells #[.int .i64 n2, .slice am2 lm2 cm2, .slice ac2 lc2 cc2] 25))
    rw [Later.new_w] at hs
    replace ht := ht.later (Later.new _ (.cells #[.int .i64 n2, .slice am2 lm2 cm2, .slice ac2 lc2 cc2] 25))
    rw [Later.new_w] at ht
    replace l1 := l1.later (Later.new _ (.cells #[.int .i64 n2, .slice am2 lm2 cm2, .slice ac2 lc2 cc2] 25))
    rw [Later.new_w] at l1
    have hsz : (Y2.w.alloc (.cells #[.int .i64 n2, .slice am2 lm2 cm2, .slice ac2 lc2 cc2] 25)).heap.size = B3 + 1 := by rw [hb]; simp
    obtain ⟨Y4, hZ⟩ : ∃ Z : Later W, Z.w = Y2.w.alloc (.cells #[.int .i64 n2, .slice am2 lm2 cm2, .slice ac2 lc2 cc2] 25) := ⟨Y2.step (Later.new _ _), rfl⟩
    rw [← hZ] at S hsz hs ht l1 l3 ⊢
    clear hZ
    rw [← hb]
    clear hb
    clear hs2 hsz
    refine (fine_calls n _ _ ms cs _ hs).mono ?_
    rintro e w' ⟨rfl, y, rfl⟩
    rw [HF.out]
    replace hs := hs.later y
    replace ht := ht.later y
    replace l1 := l1.later y
    replace l3 := l3.later y
    replace S := S.later y
    obtain ⟨Y5, hZ⟩ : ∃ Z : Later W, Z.w = y.w := ⟨Y4.step (y), rfl⟩
    rw [← hZ] at S hs ht l1 l3 ⊢
    clear hZ
    clear y
    have q0_0 := l1.cell (k := 0) rfl
    have q0_1 := l1.cell (k := 1) rfl
    have q0_2 := l1.cell (k := 2) rfl
    have q0_l := l1.lt
    have q1_0 := l3.cell (k := 0) rfl
    have q1_1 := l3.cell (k := 1) rfl
    have q1_2 := l3.cell (k := 2) rfl
    have q1_l := l3.lt
    go_wp2_with fail
    clear q0_0 q0_1 q0_2 q0_l
    clear q1_0 q1_1 q1_2 q1_l
    refine (fine_calls n2 _ _ mt ct _ ht).mono ?_
    rintro e w' ⟨rfl, y, rfl⟩
    rw [HF2.out]
    replace hs := hs.later y
    replace ht := ht.later y
    replace l1 := l1.later y
    replace l3 := l3.later y
    replace S := S.later y
    obtain ⟨Y6, hZ⟩ : ∃ Z : Later W, Z.w = y.w := ⟨Y5.step (y), rfl⟩
    rw [← hZ] at S hs ht l1 l3 ⊢
    clear hZ
    clear y
    have q0_0 := l1.cell (k := 0) rfl
    have q0_1 := l1.cell (k := 1) rfl
    have q0_2 := l1.cell (k := 2) rfl
    have q0_l := l1.lt
    have q1_0 := l3.cell (k := 0) rfl
    have q1_1 := l3.cell (k := 1) rfl
    have q1_2 := l3.cell (k := 2) rfl
    have q1_l := l3.lt
    go_wp2_with fail
    clear q0_0 q0_1 q0_2 q0_l
    clear q1_0 q1_1 q1_2 q1_l
    refine (Works_calls _).mono ?_
    rintro e w' ⟨rfl, y, rfl⟩
    go_wp2
    go_ret
    exact ⟨rfl, Y6.step (y), rfl⟩
  have d7 : decide ((7 : Int) < (nx : Int)) = false := decide_eq_false (by omega)
  have hl1 : mn.length ≤ 40 := HS.out.ml
  have hl2 : mn2.length ≤ 40 := HS2.out.ml
  have hl3 : cn.length ≤ 20 := HS.out.cl
  have hl4 : cn2.length ≤ 20 := HS2.out.cl
  have hml : ms.length ≤ 40 := by rw [HMS.out, List.length_map]; exact hl1
  have hcl : cs.length ≤ 20 := by rw [HCS.out, List.length_map]; exact hl3
  have HLM2 := Lib.hid (show lm2 = mn2.length by rw [HML2.out, HMS2.out, List.length_map])
  have HLC2 := Lib.hid (show lc2 = cn2.length by rw [HCL2.out, HCS2.out, List.length_map])
  go_enter Try.func14, Try.ntmps14
  go_wp2_with fail
  obtain ⟨B1, hb⟩ : ∃ b, b = W.heap.size := ⟨_, rfl⟩
  have l1 : Lin (W.alloc (.cells #[.int .i64 n, .slice am lm cm, .slice ac lc cc] 25)) B1 25 [.int .i64 n, .slice am lm cm, .slice ac lc cc] := by rw [hb]; exact Lin.new _ _ [.int .i64 n, .slice am lm cm, .slice ac lc cc]
  replace S := S.later (Later.new _ (.cells #[.int .i64 n, .slice am lm cm, .slice ac lc cc] 25))
  rw [Later.new_w] at S
  replace hs := hs.later (Later.new _ (.cells #[.int .i64 n, .slice am lm cm, .slice ac lc cc] 25))
  rw [Later.new_w] at hs
  replace ht := ht.later (Later.new _ (.cells #[.int .i64 n, .slice am lm cm, .slice ac lc cc] 25))
  rw [Later.new_w] at ht
  have hsz : (W.alloc (.cells #[.int .i64 n, .slice am lm cm, .slice ac lc cc] 25)).heap.size = B1 + 1 := by rw [hb]; simp
  obtain ⟨Y2, hZ⟩ : ∃ Z : Later W, Z.w = W.alloc (.cells #[.int .i64 n, .slice am lm cm, .slice ac lc cc] 25) := ⟨Later.new _ _, rfl⟩
  rw [← hZ] at S hsz hs ht l1 ⊢
  clear hZ
  rw [← hb]
  clear hb
  have hs2 := hsz
  rw [← hsz]
  clear hsz
  obtain ⟨B3, hb⟩ : ∃ b, b = Y2.w.heap.size := ⟨_, rfl⟩
  have l3 : Lin (Y2.w.alloc (.cells #[.int .i64 n2, .slice am2 lm2 cm2, .slice ac2 lc2 cc2] 25)) B3 25 [.int .i64 n2, .slice am2 lm2 cm2, .slice ac2 lc2 cc2] := by rw [hb]; exact Lin.new _ _ [.int .i64 n2, .slice am2 lm2 cm2, .slice ac2 lc2 cc2]
  replace S := S.later (Later.new _ (.cells #[.int .i64 n2, .slice am2 lm2 cm2, .slice ac2 lc2 cc2] 25))
  rw [Later.new_w] at S
  replace hs := hs.later (Later.new _ (.cells #[.int .i64 n2, .slice am2 lm2 cm2, .slice ac2 lc2 cc2] 25))
  rw [Later.new_w] at hs
  replace ht := ht.later (Later.new _ (.cells #[.int .i64 n2, .slice am2 lm2 cm2, .slice ac2 lc2 cc2] 25))
  rw [Later.new_w] at ht
  replace l1 := l1.later (Later.new _ (.cells #[.int .i64 n2, .slice am2 lm2 cm2, .slice ac2 lc2 cc2] 25))
  rw [Later.new_w] at l1
  have hsz : (Y2.w.alloc (.cells #[.int .i64 n2, .slice am2 lm2 cm2, .slice ac2 lc2 cc2] 25)).heap.size = B3 + 1 := by rw [hb]; simp
  obtain ⟨Y4, hZ⟩ : ∃ Z : Later W, Z.w = Y2.w.alloc (.cells #[.int .i64 n2, .slice am2 lm2 cm2, .slice ac2 lc2 cc2] 25) := ⟨Y2.step (Later.new _ _), rfl⟩
  rw [← hZ] at S hsz hs ht l1 l3 ⊢
  clear hZ
  rw [← hb]
  clear hb
  clear hs2 hsz
  refine (fine_calls n _ _ ms cs _ hs).mono ?_
  rintro e w' ⟨rfl, y, rfl⟩
  rw [HF.out]
  replace hs := hs.later y
  replace ht := ht.later y
  replace l1 := l1.later y
  replace l3 := l3.later y
  replace S := S.later y
  obtain ⟨Y5, hZ⟩ : ∃ Z : Later W, Z.w = y.w := ⟨Y4.step (y), rfl⟩
  rw [← hZ] at S hs ht l1 l3 ⊢
  clear hZ
  clear y
  have q0_0 := l1.cell (k := 0) rfl
  have q0_1 := l1.cell (k := 1) rfl
  have q0_2 := l1.cell (k := 2) rfl
  have q0_l := l1.lt
  have q1_0 := l3.cell (k := 0) rfl
  have q1_1 := l3.cell (k := 1) rfl
  have q1_2 := l3.cell (k := 2) rfl
  have q1_l := l3.lt
  go_wp2_with fail
  clear q0_0 q0_1 q0_2 q0_l
  clear q1_0 q1_1 q1_2 q1_l
  refine (fine_calls n2 _ _ mt ct _ ht).mono ?_
  rintro e w' ⟨rfl, y, rfl⟩
  rw [HF2.out]
  replace hs := hs.later y
  replace ht := ht.later y
  replace l1 := l1.later y
  replace l3 := l3.later y
  replace S := S.later y
  obtain ⟨Y6, hZ⟩ : ∃ Z : Later W, Z.w = y.w := ⟨Y5.step (y), rfl⟩
  rw [← hZ] at S hs ht l1 l3 ⊢
  clear hZ
  clear y
  have q0_0 := l1.cell (k := 0) rfl
  have q0_1 := l1.cell (k := 1) rfl
  have q0_2 := l1.cell (k := 2) rfl
  have q0_l := l1.lt
  have q1_0 := l3.cell (k := 0) rfl
  have q1_1 := l3.cell (k := 1) rfl
  have q1_2 := l3.cell (k := 2) rfl
  have q1_l := l3.lt
  go_wp2
  refine Mix.region_mixL (Mix.kinds [5, 9, 14] [8, 12] [15]) (by kernel_rfl) (by kernel_rfl) ?_
  repeat ((with_reducible refine Mix.atCons ?_); first | refine Mix.skipU (by rfl) rfl (by rfl) ?_ | (refine Mix.val rfl rfl (by rfl) (fun K hK => ?_); go_big_quiet_op; refine hK _ ?_; clear hK K) | (refine Mix.skip (by rfl) ?_; go_frame))
  try simp only [hnxi]
  refine Mix.new rfl (by rfl) (fun b => .slice (some ⟨b, 0, none⟩) 0 0) (.cells #[] 55) (fun w => by simp [go_sem]) (fun E0 x1 hE0 hx1 => ?_)
  try go_frame
  repeat ((with_reducible refine Mix.atCons ?_); first | refine Mix.skipU (by rfl) rfl (by rfl) ?_ | (refine Mix.val rfl rfl (by rfl) (fun K hK => ?_); go_big_quiet_op; refine hK _ ?_; clear hK K) | (refine Mix.skip (by rfl) ?_; go_frame))
  refine Mix.loud rfl (by rfl) (fun x2 K2 hK2 => ?_)
  have hE2 : PrsM Y6.w.heap.size x2.w (.slice (some ⟨E0, 0, none⟩) 0 0) [] := (PrsM.of_block hE0 hx1).later x2
  obtain ⟨a3, n3, c3, q3, hr3, hA3⟩ := app_prs_empty hE2 ((hs.m.later x1).later x2) (Nat.le_trans x1.size x2.size) (by omega) 22
  refine Lib.wp_append_run_sl _ _ _ 22 rfl _ _ rfl rfl hr3 ?_
  refine hK2 _ q3 ?_
  clear hK2 K2 hr3 hE2
  try go_frame
  repeat ((with_reducible refine Mix.atCons ?_); first | refine Mix.skipU (by rfl) rfl (by rfl) ?_ | (refine Mix.val rfl rfl (by rfl) (fun K hK => ?_); go_big_quiet_op; refine hK _ ?_; clear hK K) | (refine Mix.skip (by rfl) ?_; go_frame))
  refine Mix.new rfl (by rfl) (fun b => .slice (some ⟨b, 0, none⟩) 0 0) (.cells #[] 3) (fun w => by simp [go_sem]) (fun E4 x4 hE4 hx4 => ?_)
  try go_frame
  repeat ((with_reducible refine Mix.atCons ?_); first | refine Mix.skipU (by rfl) rfl (by rfl) ?_ | (refine Mix.val rfl rfl (by rfl) (fun K hK => ?_); go_big_quiet_op; refine hK _ ?_; clear hK K) | (refine Mix.skip (by rfl) ?_; go_frame))
  refine Mix.loud rfl (by rfl) (fun x5 K5 hK5 => ?_)
  have hE5 : IntsM Y6.w.heap.size x5.w (.slice (some ⟨E4, 0, none⟩) 0 0) [] := (IntsM.of_block hE4 hx4).later x5
  obtain ⟨a6, n6, c6, q6, hr6, hA6⟩ := app_emptyM hE5 (((((hs.c.later x1).later x2).later q3).later x4).later x5) (Nat.le_trans x1.size (Nat.le_trans x2.size (Nat.le_trans q3.size (Nat.le_trans x4.size x5.size)))) (by omega) 23
  refine Lib.wp_append_run_sl _ _ _ 23 rfl _ _ rfl rfl hr6 ?_
  refine hK5 _ q6 ?_
  clear hK5 K5 hr6 hE5
  try go_frame
  repeat ((with_reducible refine Mix.atCons ?_); first | refine Mix.skipU (by rfl) rfl (by rfl) ?_ | (refine Mix.val rfl rfl (by rfl) (fun K hK => ?_); go_big_quiet_op; refine hK _ ?_; clear hK K) | (refine Mix.skip (by rfl) ?_; go_frame))
  refine Mix.new rfl (by rfl) (fun b => .pointer (some ⟨b, 0, none⟩)) (.cells #[.int .i64 0, .slice none 0 0, .slice none 0 0] 25) (fun w => by kernel_rfl) (fun T x7 hT hx7 => ?_)
  try go_frame
  repeat ((with_reducible refine Mix.atCons ?_); first | refine Mix.skipU (by rfl) rfl (by rfl) ?_ | (refine Mix.val rfl rfl (by rfl) (fun K hK => ?_); go_big_quiet_op; refine hK _ ?_; clear hK K) | (refine Mix.skip (by rfl) ?_; go_frame))
  refine Mix.last rfl (by rfl) (fun x8 K8 hK8 => ?_)
  have hP8 := ((((hA3.later x4).later x5).later q6).later x7).later x8
  have hC8 := (hA6.later x7).later x8
  have lX : Lin x8.w T 25 [.int .i64 0, .slice none 0 0, .slice none 0 0] := (show Lin x7.w T 25 [.int .i64 0, .slice none 0 0, .slice none 0 0] from hx7).later x8
  have hB8 : Below Y6.w.heap.size Y6.w x8.w := (((((((x1.step x2).step q3).step x4).step x5).step q6).step x7).step x8).le
  have t0 := lX.cell (k := 0) rfl
  have t1' := lX.cell (k := 1) rfl
  have t2' := lX.cell (k := 2) rfl
  have f0 := lX.frozen 0
  have f1 := lX.frozen 1
  have f2 := lX.frozen 2
  have tl := lX.lt
  have HBX := Lib.hid (Bx.made (n := nx) hB8 lX hP8 hC8 hT)
  clear hB8 lX hP8 hC8 hA3 hA6 hE0 hx1 hE4 hx4
  go_wp2_with fail
  clear t0 t1' t2' f0 f1 f2 tl
  refine Mix.done (fun x9 => ?_)
  have hbx := HBX.out.later x9
  obtain ⟨V0, hV0⟩ : ∃ V : Later Y6.w, V.w = x9.w := ⟨⟨_, hbx.le⟩, rfl⟩
  rw [← hV0] at hbx ⊢
  clear hV0 HBX x9 hx7
  clear q0_0 q0_1 q0_2 q0_l
  clear q1_0 q1_1 q1_2 q1_l
  go_wp2
  go_loopw [6] (fun i0 wr => ∃ (k : Nat) (V : Later Y6.w) (mx : Value), wr = V.w ∧ k ≤ mn2.length ∧ i0 = .int .i64 k ∧ Bx Y6.w V.w T nx mx (.slice a6 n6 c6) mx (.slice a6 n6 c6) (apM n mn mn2 k) cs) (fun i0 _ => mn2.length - (intOf i0).toNat)
  case atStart => exact ⟨0, V0, _, rfl, Nat.zero_le _, rfl, by rw [apM_zero, ← HMS.out]; exact hbx⟩
  clear hbx
  obtain ⟨k, V, mx, rfl, hk, rfl, hbx⟩ := hrel
  obtain ⟨ax, nmx, cmx, rfl⟩ := hbx.formM
  by_cases hlt : k < lm2
  · have hkm : k < mn2.length := by have := HLM2.out; omega
    have hkt : k < mt.length := by rw [← HML2.out]; exact hlt
    obtain ⟨bm, om, km, e, hkc, hbm, hgm⟩ := (ht.m.later V).at (k := k) hkt
    injection e with e1 e2 e3
    subst e1 e3
    obtain ⟨g1, g2⟩ := hgm k hkt
    obtain ⟨pa, hpa⟩ : ∃ v, mn2[k].1 = v := ⟨_, rfl⟩
    obtain ⟨pb, hpb⟩ : ∃ v, mn2[k].2 = v := ⟨_, rfl⟩
    have hpr : pr mt k = ((pa : Int), (pb : Int)) := by rw [pr_eq hkt]; simp only [HMS2.out, List.getElem_map, prI, hpa, hpb]
    rw [hpr] at g1 g2
    have hpab := HS2.out.mr _ (List.getElem_mem hkm)
    rw [hpa, hpb] at hpab
    have HSU := Lib.hid (apM_succ n mn mn2 hkm)
    rw [hpa, hpb] at HSU
    clear hgm hpr hpa hpb e2 hkt
    obtain ⟨ra, hra⟩ : ∃ v, pa + 2 * n = v := ⟨_, rfl⟩
    obtain ⟨rb, hrb⟩ : ∃ v, pb + 2 * n = v := ⟨_, rfl⟩
    rw [hra, hrb] at HSU
    have hrai : (pa : Int) + 2 * (n : Int) = (ra : Int) := by omega
    have hrbi : (pb : Int) + 2 * (n : Int) = (rb : Int) := by omega
    clear hra hrb
    have hlen := apM_len n mn mn2 k
    have lA := l1.later V
    have lB := l3.later V
    have lX := hbx.lin
    have p0 := lA.cell (k := 0) rfl
    have pA := lA.lt
    have r1 := lB.cell (k := 1) rfl
    have r2 := lB.cell (k := 2) rfl
    have rB := lB.lt
    have u1 := lX.cell (k := 1) rfl
    have u2 := lX.cell (k := 2) rfl
    have uX := lX.lt
    go_wp2
    refine Mix.region_mixL (Mix.kinds [23] [] [24, 25, 26]) (by kernel_rfl) (by kernel_rfl) ?_
    repeat ((with_reducible refine Mix.atCons ?_); first | refine Mix.skipU (by rfl) rfl (by rfl) ?_ | (refine Mix.val rfl rfl (by rfl) (fun K hK => ?_); go_big_quiet_op; refine hK _ ?_; clear hK K) | (refine Mix.skip (by rfl) ?_; go_frame))
    try simp only [hrai, hrbi]
    refine Mix.new rfl (by rfl) (fun b => .slice (some ⟨b, 0, none⟩) 1 1) (.cells #[.int .i64 ra, .int .i64 rb] 55) (fun w => by simp [go_sem]) (fun E4 x4 hE4 hx4 => ?_)
    try go_frame
    repeat ((with_reducible refine Mix.atCons ?_); first | refine Mix.skipU (by rfl) rfl (by rfl) ?_ | (refine Mix.val rfl rfl (by rfl) (fun K hK => ?_); go_big_quiet_op; refine hK _ ?_; clear hK K) | (refine Mix.skip (by rfl) ?_; go_frame))
    refine Mix.lastR rfl (by rfl) (by decide) (fun x5 K5 hK5 => ?_)
    have hb5 := (hbx.later x4).later x5
    have hc0 : x5.w.cell? ⟨E4, 0, none⟩ = some (.int .i64 ra) := by
      have h1 := (x5.le.block E4 (Array.getElem?_eq_some_iff.1 hx4).1).trans hx4
      simp [World.cell?, h1]
    have hc1 : x5.w.cell? ⟨E4, 1, none⟩ = some (.int .i64 rb) := by
      have h1 := (x5.le.block E4 (Array.getElem?_eq_some_iff.1 hx4).1).trans hx4
      simp [World.cell?, h1]
    obtain ⟨v6, w6, hr6, hb6, -, -⟩ := hb5.appM E4 1 ra rb hc0 hc1 (by omega) 22
    obtain ⟨a7, n7, c7, rfl⟩ := hb6.formM
    refine Lib.wp_append_run_sl _ _ _ 22 rfl _ _ rfl rfl hr6 ?_
    refine hK5 _ _ ?_
    clear hK5 K5 hr6 hc0 hc1 hb5 hx4
    try go_frame
    refine Mix.lastR rfl (by rfl) (by decide) (fun x7 K7 hK7 => ?_)
    go_wp2_with fail
    try go_frame
    refine Mix.last rfl (by rfl) (fun x8 K8 hK8 => ?_)
    have hb8 := (hb6.later x7).later x8
    have lX8 := hb8.lin
    have v1' := lX8.cell (k := 1) rfl
    have v1f := lX8.frozen 1
    have v1l := lX8.lt
    have HB9 := Lib.hid hb8.setM
    clear hb8 lX8 hb6
    go_wp2_with fail
    clear v1' v1f v1l
    refine Mix.done (fun x9 => ?_)
    have hb9 := HB9.out.later x9
    obtain ⟨V9, hV9⟩ : ∃ V : Later Y6.w, V.w = x9.w := ⟨⟨_, hb9.le⟩, rfl⟩
    rw [← hV9] at hb9 ⊢
    clear hV9 HB9 x9
    clear lA lB lX p0 pA r1 r2 rB u1 u2 uX
    go_wp2
    go_roundw
    case rel => exact ⟨k + 1, V9, _, rfl, by omega, by go_num, by rw [HSU.out]; exact hb9⟩
    case measure => simp [intOf]; omega
  obtain rfl : k = mn2.length := by have := HLM2.out; omega
  rw [apM_all] at hbx
  have lA := l1.later V
  have lB := l3.later V
  have lX := hbx.lin
  have p0 := lA.cell (k := 0) rfl
  have pA := lA.lt
  have r1 := lB.cell (k := 1) rfl
  have r2 := lB.cell (k := 2) rfl
  have rB := lB.lt
  have u1 := lX.cell (k := 1) rfl
  have u2 := lX.cell (k := 2) rfl
  have uX := lX.lt
  go_wp2
  clear lA lB lX p0 pA r1 r2 rB u1 u2 uX
  go_loopw [7] (fun i0 wr => ∃ (k : Nat) (V : Later Y6.w) (cx : Value), wr = V.w ∧ k ≤ cn2.length ∧ i0 = .int .i64 k ∧ Bx Y6.w V.w T nx (.slice ax nmx cmx) cx (.slice ax nmx cmx) cx ((mn ++ mn2.map (shM n)).map prI) (apC n cn cn2 k)) (fun i0 _ => cn2.length - (intOf i0).toNat)
  case atStart => exact ⟨0, V, _, rfl, Nat.zero_le _, rfl, by rw [apC_zero, ← HCS.out]; exact hbx⟩
  clear hbx
  obtain ⟨k, V2, cx, rfl, hk, rfl, hbx⟩ := hrel
  obtain ⟨axc, nxc, cxc, rfl⟩ := hbx.formC
  by_cases hlt : k < lc2
  · have hkm : k < cn2.length := by have := HLC2.out; omega
    have hkt : k < ct.length := by rw [← HCL2.out]; exact hlt
    obtain ⟨bm, om, km, e, hkc, hbm, hgm⟩ := (ht.c.later V2).at (k := k) hkt
    injection e with e1 e2 e3
    subst e1 e3
    have g1 := hgm k hkt
    obtain ⟨pa, hpa⟩ : ∃ v, cn2[k] = v := ⟨_, rfl⟩
    have hpr : nth ct k = (pa : Int) := by rw [nth_eq hkt]; simp only [HCS2.out, List.getElem_map, hpa]
    rw [hpr] at g1
    have hpab := HS2.out.cr _ (List.getElem_mem hkm)
    rw [hpa] at hpab
    have HSU := Lib.hid (apC_succ n cn cn2 hkm)
    rw [hpa] at HSU
    clear hgm hpr hpa e2 hkt
    obtain ⟨ra, hra⟩ : ∃ v, pa + 2 * n = v := ⟨_, rfl⟩
    rw [hra] at HSU
    have hrai : (pa : Int) + 2 * (n : Int) = (ra : Int) := by omega
    clear hra
    have hlen := apC_len n cn cn2 k
    have lA := l1.later V2
    have lB := l3.later V2
    have lX := hbx.lin
    have p0 := lA.cell (k := 0) rfl
    have pA := lA.lt
    have r1 := lB.cell (k := 1) rfl
    have r2 := lB.cell (k := 2) rfl
    have rB := lB.lt
    have u1 := lX.cell (k := 1) rfl
    have u2 := lX.cell (k := 2) rfl
    have uX := lX.lt
    go_wp2
    refine Mix.region_mixL (Mix.kinds [11] [] [12, 13, 14]) (by kernel_rfl) (by kernel_rfl) ?_
    repeat ((with_reducible refine Mix.atCons ?_); first | refine Mix.skipU (by rfl) rfl (by rfl) ?_ | (refine Mix.val rfl rfl (by rfl) (fun K hK => ?_); go_big_quiet_op; refine hK _ ?_; clear hK K) | (refine Mix.skip (by rfl) ?_; go_frame))
    try simp only [hrai]
    refine Mix.new rfl (by rfl) (fun b => .slice (some ⟨b, 0, none⟩) 1 1) (.cells #[.int .i64 ra] 3) (fun w => by simp [go_sem]) (fun E4 x4 hE4 hx4 => ?_)
    try go_frame
    repeat ((with_reducible refine Mix.atCons ?_); first | refine Mix.skipU (by rfl) rfl (by rfl) ?_ | (refine Mix.val rfl rfl (by rfl) (fun K hK => ?_); go_big_quiet_op; refine hK _ ?_; clear hK K) | (refine Mix.skip (by rfl) ?_; go_frame))
    refine Mix.lastR rfl (by rfl) (by decide) (fun x5 K5 hK5 => ?_)
    have hb5 := (hbx.later x4).later x5
    have hc0 : x5.w.cell? ⟨E4, 0, none⟩ = some (.int .i64 ra) := by
      have h1 := (x5.le.block E4 (Array.getElem?_eq_some_iff.1 hx4).1).trans hx4
      simp [World.cell?, h1]
    obtain ⟨v6, w6, hr6, hb6, -, -⟩ := hb5.appC E4 1 ra hc0 (by omega) 23
    obtain ⟨a7, n7, c7, rfl⟩ := hb6.formC
    refine Lib.wp_append_run_sl _ _ _ 23 rfl _ _ rfl rfl hr6 ?_
    refine hK5 _ _ ?_
    clear hK5 K5 hr6 hc0 hb5 hx4
    try go_frame
    refine Mix.lastR rfl (by rfl) (by decide) (fun x7 K7 hK7 => ?_)
    go_wp2_with fail
    try go_frame
    refine Mix.last rfl (by rfl) (fun x8 K8 hK8 => ?_)
    have hb8 := (hb6.later x7).later x8
    have lX8 := hb8.lin
    have v1' := lX8.cell (k := 2) rfl
    have v1f := lX8.frozen 2
    have v1l := lX8.lt
    have HB9 := Lib.hid hb8.setC
    clear hb8 lX8 hb6
    go_wp2_with fail
    clear v1' v1f v1l
    refine Mix.done (fun x9 => ?_)
    have hb9 := HB9.out.later x9
    obtain ⟨V9, hV9⟩ : ∃ V : Later Y6.w, V.w = x9.w := ⟨⟨_, hb9.le⟩, rfl⟩
    rw [← hV9] at hb9 ⊢
    clear hV9 HB9 x9
    clear lA lB lX p0 pA r1 r2 rB u1 u2 uX
    go_wp2
    go_roundw
    case rel => exact ⟨k + 1, V9, _, rfl, by omega, by go_num, by rw [HSU.out]; exact hb9⟩
    case measure => simp [intOf]; omega
  obtain rfl : k = cn2.length := by have := HLC2.out; omega
  rw [apC_all] at hbx
  have lX := hbx.lin
  obtain ⟨PX, hPX⟩ : ∃ P, (mn ++ mn2.map (shM n)).map prI = P := ⟨_, rfl⟩
  obtain ⟨CX, hCX⟩ : ∃ P, ((cn ++ cn2.map (· + 2 * n)).map fun (c : Nat) => (c : Int)) = P := ⟨_, rfl⟩
  have hSx := hbx.sht (by simp; omega) (by simp; omega)
  rw [hPX, hCX] at hSx
  have HPX := Lib.hid hPX
  have HCX := Lib.hid hCX
  clear hPX hCX hbx hk
  replace hs := hs.later V2
  replace ht := ht.later V2
  replace l1 := l1.later V2
  replace l3 := l3.later V2
  replace S := S.later V2
  obtain ⟨Y7, hZ⟩ : ∃ Z : Later W, Z.w = V2.w := ⟨Y6.step (V2), rfl⟩
  rw [← hZ] at S hs ht l1 l3 lX hSx ⊢
  clear hZ
  by_cases hxl : (mn ++ mn2.map (shM n)).length ≤ 40 ∧ (cn ++ cn2.map (· + 2 * n)).length ≤ 20
  rotate_left
  · have HFX := Lib.hid (show fineB nx PX CX = false by rw [← HPX.out, ← HCX.out]; exact apart_big hxl)
    clear hxl
    have q0_0 := l3.cell (k := 0) rfl
    have q0_1 := l3.cell (k := 1) rfl
    have q0_2 := l3.cell (k := 2) rfl
    have q0_l := l3.lt
    have q1_0 := lX.cell (k := 0) rfl
    have q1_1 := lX.cell (k := 1) rfl
    have q1_2 := lX.cell (k := 2) rfl
    have q1_l := lX.lt
    go_wp2_with fail
    clear q0_0 q0_1 q0_2 q0_l
    clear q1_0 q1_1 q1_2 q1_l
    refine (fine_calls nx _ _ PX CX _ hSx).mono ?_
    rintro e w' ⟨rfl, y, rfl⟩
    rw [HFX.out]
    replace hs := hs.later y
    replace ht := ht.later y
    replace l1 := l1.later y
    replace l3 := l3.later y
    replace lX := lX.later y
    replace hSx := hSx.later y
    replace S := S.later y
    obtain ⟨Y8, hZ⟩ : ∃ Z : Later W, Z.w = y.w := ⟨Y7.step (y), rfl⟩
    rw [← hZ] at S hs ht l1 l3 lX hSx ⊢
    clear hZ
    clear y
    go_wp2_with fail
    refine (Works_calls _).mono ?_
    rintro e w' ⟨rfl, y, rfl⟩
    go_wp2
    go_ret
    exact ⟨rfl, Y8.step (y), rfl⟩
  have hX := apart_shn HS.out HS2.out (by omega) hxl
  obtain ⟨a, b, k, m, ha, hb, ea, eb, ec, na, nb, nc, ek, em, en, hk10, hm10, va, vb, vc⟩ := apart_facts HS.out HS2.out hX HMS.out HMS2.out HPX.out.symm HCS.out HCS2.out HCX.out.symm
  rw [HNX.out] at ec nc en vc
  have h10x : nx ≤ 10 := by omega
  have HFX := Lib.hid (show fineB nx PX CX = true from decide_eq_true vc)
  push_cast at ec en
  have hab0 : (0 : Int) ≤ (a : Int) * (b : Int) := by rw [← Int.natCast_mul]; omega
  have hab1 : (a : Int) * (b : Int) ≤ 1048576 := by
    have h := Nat.mul_le_mul ha hb
    rw [← Int.natCast_mul]; omega
  have HEA := Lib.hid ea
  have HEB := Lib.hid eb
  have HEC := Lib.hid ec
  have HNA := Lib.hid na
  have HNB := Lib.hid nb
  have HNC := Lib.hid nc
  have HEK := Lib.hid ek
  have HEM := Lib.hid em
  have HEN := Lib.hid en
  have HVA := Lib.hid va
  have HVB := Lib.hid vb
  have HVC := Lib.hid vc
  clear ea eb ec na nb nc ek em en va vb vc hX hxl
  have q0_0 := l3.cell (k := 0) rfl
  have q0_1 := l3.cell (k := 1) rfl
  have q0_2 := l3.cell (k := 2) rfl
  have q0_l := l3.lt
  have q1_0 := lX.cell (k := 0) rfl
  have q1_1 := lX.cell (k := 1) rfl
  have q1_2 := lX.cell (k := 2) rfl
  have q1_l := lX.lt
  go_wp2_with fail
  clear q0_0 q0_1 q0_2 q0_l
  clear q1_0 q1_1 q1_2 q1_l
  refine (fine_calls nx _ _ PX CX _ hSx).mono ?_
  rintro e w' ⟨rfl, y, rfl⟩
  rw [HFX.out]
  replace hs := hs.later y
  replace ht := ht.later y
  replace l1 := l1.later y
  replace l3 := l3.later y
  replace lX := lX.later y
  replace hSx := hSx.later y
  replace S := S.later y
  obtain ⟨Y8, hZ⟩ : ∃ Z : Later W, Z.w = y.w := ⟨Y7.step (y), rfl⟩
  rw [← hZ] at S hs ht l1 l3 lX hSx ⊢
  clear hZ
  clear y
  have q0_0 := l1.cell (k := 0) rfl
  have q0_1 := l1.cell (k := 1) rfl
  have q0_2 := l1.cell (k := 2) rfl
  have q0_l := l1.lt
  go_wp2
  refine Mix.region_mixL (Mix.kinds [] [2, 3] []) (by kernel_rfl) (by kernel_rfl) ?_
  repeat ((with_reducible refine Mix.atCons ?_); first | refine Mix.skipU (by rfl) rfl (by rfl) ?_ | (refine Mix.val rfl rfl (by rfl) (fun K hK => ?_); go_big_quiet_op; refine hK _ ?_; clear hK K) | (refine Mix.skip (by rfl) ?_; go_frame))
  refine Mix.loud rfl (by rfl) (fun x1 K hK => ?_)
  go_wp2_with fail
  refine (Some_calls n 1023 _ _ ms cs h10 _ (hs.later x1)).mono ?_
  rintro e w' ⟨v, y1, rfl, rfl, hR⟩
  rw [some_all h10] at hR
  obtain ⟨asd, nsd, csd, rfl⟩ : ∃ a n c, v = .slice a n c := by obtain ⟨a, c, e⟩ := hR.form; exact ⟨a, _, c, e⟩
  refine hK _ y1 ?_
  clear hK K
  try go_frame
  repeat ((with_reducible refine Mix.atCons ?_); first | refine Mix.skipU (by rfl) rfl (by rfl) ?_ | (refine Mix.val rfl rfl (by rfl) (fun K hK => ?_); go_big_quiet_op; refine hK _ ?_; clear hK K) | (refine Mix.skip (by rfl) ?_; go_frame))
  refine Mix.loud rfl (by rfl) (fun x2 K hK => ?_)
  go_wp2_with fail
  refine (Count_any n _ _ _ ms cs (natV (List.range n)) _ (((hs.later x1).later y1).later x2) (hR.later x2)).mono ?_
  rintro e w' ⟨rfl, y2, rfl⟩
  rw [HEA.out, HNA.out]
  refine hK _ y2 ?_
  clear hK K
  try go_frame
  repeat ((with_reducible refine Mix.atCons ?_); first | refine Mix.skipU (by rfl) rfl (by rfl) ?_ | (refine Mix.val rfl rfl (by rfl) (fun K hK => ?_); go_big_quiet_op; refine hK _ ?_; clear hK K) | (refine Mix.skip (by rfl) ?_; go_frame))
  refine Mix.done (fun x3 => ?_)
  clear q0_0 q0_1 q0_2 q0_l
  replace hs := (((((hs.later x1).later y1).later x2).later y2).later x3)
  replace ht := (((((ht.later x1).later y1).later x2).later y2).later x3)
  replace l1 := (((((l1.later x1).later y1).later x2).later y2).later x3)
  replace l3 := (((((l3.later x1).later y1).later x2).later y2).later x3)
  replace lX := (((((lX.later x1).later y1).later x2).later y2).later x3)
  replace hSx := (((((hSx.later x1).later y1).later x2).later y2).later x3)
  replace S := (((((S.later x1).later y1).later x2).later y2).later x3)
  obtain ⟨Y9, hZ⟩ : ∃ Z : Later W, Z.w = x3.w := ⟨Y8.step (x1.step (y1.step (x2.step (y2.step (x3))))), rfl⟩
  rw [← hZ] at S hs ht l1 l3 lX hSx ⊢
  clear hZ
  clear hR
  have q0_0 := l3.cell (k := 0) rfl
  have q0_1 := l3.cell (k := 1) rfl
  have q0_2 := l3.cell (k := 2) rfl
  have q0_l := l3.lt
  go_wp2
  refine Mix.region_mixL (Mix.kinds [] [2, 3] []) (by kernel_rfl) (by kernel_rfl) ?_
  repeat ((with_reducible refine Mix.atCons ?_); first | refine Mix.skipU (by rfl) rfl (by rfl) ?_ | (refine Mix.val rfl rfl (by rfl) (fun K hK => ?_); go_big_quiet_op; refine hK _ ?_; clear hK K) | (refine Mix.skip (by rfl) ?_; go_frame))
  refine Mix.loud rfl (by rfl) (fun x1 K hK => ?_)
  go_wp2_with fail
  refine (Some_calls n2 1023 _ _ mt ct h210 _ (ht.later x1)).mono ?_
  rintro e w' ⟨v, y1, rfl, rfl, hR⟩
  rw [some_all h210] at hR
  obtain ⟨asd, nsd, csd, rfl⟩ : ∃ a n c, v = .slice a n c := by obtain ⟨a, c, e⟩ := hR.form; exact ⟨a, _, c, e⟩
  refine hK _ y1 ?_
  clear hK K
  try go_frame
  repeat ((with_reducible refine Mix.atCons ?_); first | refine Mix.skipU (by rfl) rfl (by rfl) ?_ | (refine Mix.val rfl rfl (by rfl) (fun K hK => ?_); go_big_quiet_op; refine hK _ ?_; clear hK K) | (refine Mix.skip (by rfl) ?_; go_frame))
  refine Mix.loud rfl (by rfl) (fun x2 K hK => ?_)
  go_wp2_with fail
  refine (Count_any n2 _ _ _ mt ct (natV (List.range n2)) _ (((ht.later x1).later y1).later x2) (hR.later x2)).mono ?_
  rintro e w' ⟨rfl, y2, rfl⟩
  rw [HEB.out, HNB.out]
  refine hK _ y2 ?_
  clear hK K
  try go_frame
  repeat ((with_reducible refine Mix.atCons ?_); first | refine Mix.skipU (by rfl) rfl (by rfl) ?_ | (refine Mix.val rfl rfl (by rfl) (fun K hK => ?_); go_big_quiet_op; refine hK _ ?_; clear hK K) | (refine Mix.skip (by rfl) ?_; go_frame))
  refine Mix.done (fun x3 => ?_)
  clear q0_0 q0_1 q0_2 q0_l
  replace hs := (((((hs.later x1).later y1).later x2).later y2).later x3)
  replace ht := (((((ht.later x1).later y1).later x2).later y2).later x3)
  replace l1 := (((((l1.later x1).later y1).later x2).later y2).later x3)
  replace l3 := (((((l3.later x1).later y1).later x2).later y2).later x3)
  replace lX := (((((lX.later x1).later y1).later x2).later y2).later x3)
  replace hSx := (((((hSx.later x1).later y1).later x2).later y2).later x3)
  replace S := (((((S.later x1).later y1).later x2).later y2).later x3)
  obtain ⟨Y10, hZ⟩ : ∃ Z : Later W, Z.w = x3.w := ⟨Y9.step (x1.step (y1.step (x2.step (y2.step (x3))))), rfl⟩
  rw [← hZ] at S hs ht l1 l3 lX hSx ⊢
  clear hZ
  clear hR
  have q0_0 := lX.cell (k := 0) rfl
  have q0_1 := lX.cell (k := 1) rfl
  have q0_2 := lX.cell (k := 2) rfl
  have q0_l := lX.lt
  go_wp2
  refine Mix.region_mixL (Mix.kinds [] [2, 3] []) (by kernel_rfl) (by kernel_rfl) ?_
  repeat ((with_reducible refine Mix.atCons ?_); first | refine Mix.skipU (by rfl) rfl (by rfl) ?_ | (refine Mix.val rfl rfl (by rfl) (fun K hK => ?_); go_big_quiet_op; refine hK _ ?_; clear hK K) | (refine Mix.skip (by rfl) ?_; go_frame))
  refine Mix.loud rfl (by rfl) (fun x1 K hK => ?_)
  go_wp2_with fail
  refine (Some_calls nx 1023 _ _ PX CX h10x _ (hSx.later x1)).mono ?_
  rintro e w' ⟨v, y1, rfl, rfl, hR⟩
  rw [some_all h10x] at hR
  obtain ⟨asd, nsd, csd, rfl⟩ : ∃ a n c, v = .slice a n c := by obtain ⟨a, c, e⟩ := hR.form; exact ⟨a, _, c, e⟩
  refine hK _ y1 ?_
  clear hK K
  try go_frame
  repeat ((with_reducible refine Mix.atCons ?_); first | refine Mix.skipU (by rfl) rfl (by rfl) ?_ | (refine Mix.val rfl rfl (by rfl) (fun K hK => ?_); go_big_quiet_op; refine hK _ ?_; clear hK K) | (refine Mix.skip (by rfl) ?_; go_frame))
  refine Mix.loud rfl (by rfl) (fun x2 K hK => ?_)
  go_wp2_with fail
  refine (Count_any nx _ _ _ PX CX (natV (List.range nx)) _ (((hSx.later x1).later y1).later x2) (hR.later x2)).mono ?_
  rintro e w' ⟨rfl, y2, rfl⟩
  rw [HEC.out, HNC.out]
  refine hK _ y2 ?_
  clear hK K
  try go_frame
  repeat ((with_reducible refine Mix.atCons ?_); first | refine Mix.skipU (by rfl) rfl (by rfl) ?_ | (refine Mix.val rfl rfl (by rfl) (fun K hK => ?_); go_big_quiet_op; refine hK _ ?_; clear hK K) | (refine Mix.skip (by rfl) ?_; go_frame))
  refine Mix.done (fun x3 => ?_)
  clear q0_0 q0_1 q0_2 q0_l
  replace hs := (((((hs.later x1).later y1).later x2).later y2).later x3)
  replace ht := (((((ht.later x1).later y1).later x2).later y2).later x3)
  replace l1 := (((((l1.later x1).later y1).later x2).later y2).later x3)
  replace l3 := (((((l3.later x1).later y1).later x2).later y2).later x3)
  replace lX := (((((lX.later x1).later y1).later x2).later y2).later x3)
  replace hSx := (((((hSx.later x1).later y1).later x2).later y2).later x3)
  replace S := (((((S.later x1).later y1).later x2).later y2).later x3)
  obtain ⟨Y11, hZ⟩ : ∃ Z : Later W, Z.w = x3.w := ⟨Y10.step (x1.step (y1.step (x2.step (y2.step (x3))))), rfl⟩
  rw [← hZ] at S hs ht l1 l3 lX hSx ⊢
  clear hZ
  clear hR
  have q0_0 := l1.cell (k := 0) rfl
  have q0_1 := l1.cell (k := 1) rfl
  have q0_2 := l1.cell (k := 2) rfl
  have q0_l := l1.lt
  go_wp2_with fail
  clear q0_0 q0_1 q0_2 q0_l
  refine (Most_any n _ _ ms cs _ hs).mono ?_
  rintro e w' ⟨rfl, y, rfl⟩
  rw [HEK.out, HVA.out]
  replace hs := hs.later y
  replace ht := ht.later y
  replace l1 := l1.later y
  replace l3 := l3.later y
  replace lX := lX.later y
  replace hSx := hSx.later y
  replace S := S.later y
  obtain ⟨Y12, hZ⟩ : ∃ Z : Later W, Z.w = y.w := ⟨Y11.step (y), rfl⟩
  rw [← hZ] at S hs ht l1 l3 lX hSx ⊢
  clear hZ
  clear y
  have q0_0 := l3.cell (k := 0) rfl
  have q0_1 := l3.cell (k := 1) rfl
  have q0_2 := l3.cell (k := 2) rfl
  have q0_l := l3.lt
  go_wp2_with fail
  clear q0_0 q0_1 q0_2 q0_l
  refine (Most_any n2 _ _ mt ct _ ht).mono ?_
  rintro e w' ⟨rfl, y, rfl⟩
  rw [HEM.out, HVB.out]
  replace hs := hs.later y
  replace ht := ht.later y
  replace l1 := l1.later y
  replace l3 := l3.later y
  replace lX := lX.later y
  replace hSx := hSx.later y
  replace S := S.later y
  obtain ⟨Y13, hZ⟩ : ∃ Z : Later W, Z.w = y.w := ⟨Y12.step (y), rfl⟩
  rw [← hZ] at S hs ht l1 l3 lX hSx ⊢
  clear hZ
  clear y
  have q0_0 := lX.cell (k := 0) rfl
  have q0_1 := lX.cell (k := 1) rfl
  have q0_2 := lX.cell (k := 2) rfl
  have q0_l := lX.lt
  go_wp2_with fail
  clear q0_0 q0_1 q0_2 q0_l
  refine (Most_any nx _ _ PX CX _ hSx).mono ?_
  rintro e w' ⟨rfl, y, rfl⟩
  rw [HEN.out, HVC.out]
  replace hs := hs.later y
  replace ht := ht.later y
  replace l1 := l1.later y
  replace l3 := l3.later y
  replace lX := lX.later y
  replace hSx := hSx.later y
  replace S := S.later y
  obtain ⟨Y14, hZ⟩ : ∃ Z : Later W, Z.w = y.w := ⟨Y13.step (y), rfl⟩
  rw [← hZ] at S hs ht l1 l3 lX hSx ⊢
  clear hZ
  clear y
  go_wp2_with fail
  refine (Works_calls _).mono ?_
  rintro e w' ⟨rfl, y, rfl⟩
  go_wp2
  go_ret
  exact ⟨rfl, Y14.step (y), rfl⟩
end Go.Proofs.Ytdhdpbnlhnodjaa
