import Derived.Test.YtdhdpbnlhnodjaaTbkP
/-  NameTurned. -/
namespace Go.Proofs.Ytdhdpbnlhnodjaa
open Go.RowKit
/-- what is made of the first k meetings, covered places, and (from the end) names -/
def tkM (f : Nat → Nat) (mn : List (Nat × Nat)) (k : Nat) : List (Int × Int) := (mapM f (mn.take k)).map prI
def tkC (f : Nat → Nat) (cn : List Nat) (k : Nat) : List Int := ((cn.take k).map f).map fun (c : Nat) => (c : Int)
def tkN (n : Nat) (N : List Nat) (k : Nat) : List Int := natV ((N.reverse.take k).map (n - 1 - ·))
theorem tkM_succ (f : Nat → Nat) (mn : List (Nat × Nat)) {k : Nat} (hk : k < mn.length) : tkM f mn (k + 1) = tkM f mn k ++ [(((f mn[k].1 : Nat) : Int), ((f mn[k].2 : Nat) : Int))] := by
  rw [tkM, tkM, List.take_succ_eq_append_getElem hk, mapM, List.map_append, List.map_append]; rfl
theorem tkC_succ (f : Nat → Nat) (cn : List Nat) {k : Nat} (hk : k < cn.length) : tkC f cn (k + 1) = tkC f cn k ++ [((f cn[k] : Nat) : Int)] := by
  rw [tkC, tkC, List.take_succ_eq_append_getElem hk, List.map_append, List.map_append]; rfl
theorem tkN_succ (n : Nat) (N : List Nat) {k j : Nat} (hk : k < N.length) (hj : N.length - 1 - k = j) : tkN n N (k + 1) = tkN n N k ++ [((n - 1 - N[j]'(by omega) : Nat) : Int)] := by
  subst hj
  have hk2 : k < N.reverse.length := by rw [List.length_reverse]; exact hk
  rw [tkN, tkN, List.take_succ_eq_append_getElem hk2, List.map_append, natV, List.map_append, List.getElem_reverse]; rfl
theorem tkM_all (f : Nat → Nat) (mn : List (Nat × Nat)) : tkM f mn mn.length = (mapM f mn).map prI := by rw [tkM, List.take_length]
theorem tkC_all (f : Nat → Nat) (cn : List Nat) : tkC f cn cn.length = (cn.map f).map fun (c : Nat) => (c : Int) := by rw [tkC, List.take_length]
theorem tkN_all (n : Nat) (N : List Nat) : tkN n N N.length = natV (backN n N) := by rw [tkN, backN, List.take_of_length_le (by simp), List.map_reverse]
theorem tkM_len (f : Nat → Nat) (mn : List (Nat × Nat)) (k : Nat) : (tkM f mn k).length ≤ mn.length := by simp [tkM, mapM]; omega
theorem tkC_len (f : Nat → Nat) (cn : List Nat) (k : Nat) : (tkC f cn k).length ≤ cn.length := by simp [tkC]; omega
theorem tkN_len (n : Nat) (N : List Nat) (k : Nat) : (tkN n N k).length ≤ N.length := by simp [tkN, natV]; omega
set_option maxRecDepth 100000 in
set_option maxHeartbeats 8000000 in
theorem NameTurned_calls (ni : Int) (mv cv : Value) (ms : List (Int × Int)) (cs : List Int) (b : Nat) (one : Nat) (pl : Nat) (W : World) (hs : Sht W mv cv ms cs) (_hb : b ≤ 65535) (hone : one ≤ 255) (hpl : pl ≤ 255) :
    Calls Try.prog 13 #[.agg #[.int .i64 ni, mv, cv], .int .u16 (b : Int), .int .u8 (one : Int), .int .u8 (pl : Int)] W (Gives (.bool true) W) := by
  have S : Ins W [] := Ins.nil _
  obtain ⟨am, lm, cm, rfl⟩ : ∃ a n c, mv = .slice a n c := by obtain ⟨a, c, e⟩ := hs.m.form; exact ⟨a, _, c, e⟩
  obtain ⟨ac, lc, cc, rfl⟩ : ∃ a n c, cv = .slice a n c := by obtain ⟨a, c, e⟩ := hs.c.form; exact ⟨a, _, c, e⟩
  by_cases hv : vsheet ni ms cs = 0
  rotate_left
  · have HF := Lib.hid (show fineB ni ms cs = false from decide_eq_false hv)
    clear hv
    go_enter Try.func13, Try.ntmps13
    go_wp2_with fail
    obtain ⟨B1, hb⟩ : ∃ b, b = W.heap.size := ⟨_, rfl⟩
    have l1 : Lin (W.alloc (.cells #[.int .i64 ni, .slice am lm cm, .slice ac lc cc] 25)) B1 25 [.int .i64 ni, .slice am lm cm, .slice ac lc cc] := by rw [hb]; exact Lin.new _ _ [.int .i64 ni, .slice am lm cm, .slice ac lc cc]
    replace S := S.later (Later.new _ (.cells #[.int .i64 ni, .slice am lm cm, .slice ac lc cc] 25))
    rw [Later.new_w] at S
    replace hs := hs.later (Later.new _ (.cells #[.int .i64 ni, .slice am lm cm, .slice ac lc cc] 25))
    rw [Later.new_w] at hs
    have hsz : (W.alloc (.cells #[.int .i64 ni, .slice am lm cm, .slice ac lc cc] 25)).heap.size = B1 + 1 := by rw [hb]; simp
    obtain ⟨Y2, hZ⟩ : ∃ Z : Later W, Z.w = W.alloc (.cells #[.int .i64 ni, .slice am lm cm, .slice ac lc cc] 25) := ⟨Later.new _ _, rfl⟩
    rw [← hZ] at S hsz hs l1 ⊢
    clear hZ
    rw [← hb]
    clear hb
    clear hsz
    refine (fine_calls ni _ _ ms cs _ hs).mono ?_
    rintro e w' ⟨rfl, y, rfl⟩
    rw [HF.out]
    replace hs := hs.later y
    replace l1 := l1.later y
    replace S := S.later y
    obtain ⟨Y3, hZ⟩ : ∃ Z : Later W, Z.w = y.w := ⟨Y2.step (y), rfl⟩
    rw [← hZ] at S hs l1 ⊢
    clear hZ
    clear y
    go_wp2_with fail
    refine (Works_calls _).mono ?_
    rintro e w' ⟨rfl, y, rfl⟩
    go_wp2
    go_ret
    exact ⟨rfl, Y3.step (y), rfl⟩
  obtain ⟨n, mn, cn, rfl, hms, hcs, hS⟩ := vsheet_nat hv
  have HF := Lib.hid (show fineB n ms cs = true from decide_eq_true hv)
  have HS := Lib.hid hS
  have HMS := Lib.hid hms
  have HCS := Lib.hid hcs
  have h1 := hS.n1
  have h10 := hS.n10
  have HML := Lib.hid (show lm = ms.length by obtain ⟨a, c, e⟩ := hs.m.form; cases e; rfl)
  have HCL := Lib.hid (show lc = cs.length by obtain ⟨a, c, e⟩ := hs.c.form; cases e; rfl)
  clear hv hms hcs hS
  by_cases hg0 : 7 < n
  · have d0 : decide ((7 : Int) < (n : Int)) = true := decide_eq_true (by omega)
    clear hg0
    go_enter Try.func13, Try.ntmps13
    go_wp2_with fail
    obtain ⟨B1, hb⟩ : ∃ b, b = W.heap.size := ⟨_, rfl⟩
    have l1 : Lin (W.alloc (.cells #[.int .i64 n, .slice am lm cm, .slice ac lc cc] 25)) B1 25 [.int .i64 n, .slice am lm cm, .slice ac lc cc] := by rw [hb]; exact Lin.new _ _ [.int .i64 n, .slice am lm cm, .slice ac lc cc]
    replace S := S.later (Later.new _ (.cells #[.int .i64 n, .slice am lm cm, .slice ac lc cc] 25))
    rw [Later.new_w] at S
    replace hs := hs.later (Later.new _ (.cells #[.int .i64 n, .slice am lm cm, .slice ac lc cc] 25))
    rw [Later.new_w] at hs
    have hsz : (W.alloc (.cells #[.int .i64 n, .slice am lm cm, .slice ac lc cc] 25)).heap.size = B1 + 1 := by rw [hb]; simp
    obtain ⟨Y2, hZ⟩ : ∃ Z : Later W, Z.w = W.alloc (.cells #[.int .i64 n, .slice am lm cm, .slice ac lc cc] 25) := ⟨Later.new _ _, rfl⟩
    rw [← hZ] at S hsz hs l1 ⊢
    clear hZ
    rw [← hb]
    clear hb
    clear hsz
    refine (fine_calls n _ _ ms cs _ hs).mono ?_
    rintro e w' ⟨rfl, y, rfl⟩
    rw [HF.out]
    replace hs := hs.later y
    replace l1 := l1.later y
    replace S := S.later y
    obtain ⟨Y3, hZ⟩ : ∃ Z : Later W, Z.w = y.w := ⟨Y2.step (y), rfl⟩
    rw [← hZ] at S hs l1 ⊢
    clear hZ
    clear y
    have q0_0 := l1.cell (k := 0) rfl
    have q0_1 := l1.cell (k := 1) rfl
    have q0_2 := l1.cell (k := 2) rfl
    have q0_l := l1.lt
    go_wp2_with fail
    clear q0_0 q0_1 q0_2 q0_l
    refine (Works_calls _).mono ?_
    rintro e w' ⟨rfl, y, rfl⟩
    go_wp2
    go_ret
    exact ⟨rfl, Y3.step (y), rfl⟩
  have d0 : decide ((7 : Int) < (n : Int)) = false := decide_eq_false (by omega)
  have HG0 := Lib.hid hg0
  clear hg0
  obtain ⟨N, hNd⟩ : ∃ N, someN n b = N := ⟨_, rfl⟩
  have HN := Lib.hid (show Nms n N from hNd ▸ someN_nms n b)
  have HND := Lib.hid hNd
  clear hNd
  obtain ⟨nl, hnl⟩ : ∃ nl, N.length = nl := ⟨_, rfl⟩
  have HNL := Lib.hid hnl
  clear hnl
  have hnl10 : nl ≤ 10 := by rw [← HNL.out]; exact Nat.le_trans HN.out.len h10
  obtain ⟨kk, hkk⟩ : ∃ k, one % n = k := ⟨_, rfl⟩
  have hkn : kk < n := by rw [← hkk]; exact Nat.mod_lt _ (by omega)
  have hkv : (one : Int) % (n : Int) = (kk : Int) := by rw [← hkk]; push_cast; rfl
  have hz0 : ((n : Int) == 0) = false := by simp; omega
  clear hkk
  obtain ⟨p, hp⟩ : ∃ k, pl % (2 * n) = k := ⟨_, rfl⟩
  have hpn : p < 2 * n := by rw [← hp]; exact Nat.mod_lt _ (by omega)
  have hpv : (pl : Int) % (2 * (n : Int)) = (p : Int) := by rw [← hp]; push_cast; rfl
  have hz : ((2 * (n : Int)) == 0) = false := by simp; omega
  clear hp
  have hml : mn.length ≤ 40 := HS.out.ml
  have hcl : cn.length ≤ 20 := HS.out.cl
  have HLM := Lib.hid (show lm = mn.length by rw [HML.out, HMS.out, List.length_map])
  have HLC := Lib.hid (show lc = cn.length by rw [HCL.out, HCS.out, List.length_map])
  go_enter Try.func13, Try.ntmps13
  go_wp2_with fail
  obtain ⟨B1, hb⟩ : ∃ b, b = W.heap.size := ⟨_, rfl⟩
  have l1 : Lin (W.alloc (.cells #[.int .i64 n, .slice am lm cm, .slice ac lc cc] 25)) B1 25 [.int .i64 n, .slice am lm cm, .slice ac lc cc] := by rw [hb]; exact Lin.new _ _ [.int .i64 n, .slice am lm cm, .slice ac lc cc]
  replace S := S.later (Later.new _ (.cells #[.int .i64 n, .slice am lm cm, .slice ac lc cc] 25))
  rw [Later.new_w] at S
  replace hs := hs.later (Later.new _ (.cells #[.int .i64 n, .slice am lm cm, .slice ac lc cc] 25))
  rw [Later.new_w] at hs
  have hsz : (W.alloc (.cells #[.int .i64 n, .slice am lm cm, .slice ac lc cc] 25)).heap.size = B1 + 1 := by rw [hb]; simp
  obtain ⟨Y2, hZ⟩ : ∃ Z : Later W, Z.w = W.alloc (.cells #[.int .i64 n, .slice am lm cm, .slice ac lc cc] 25) := ⟨Later.new _ _, rfl⟩
  rw [← hZ] at S hsz hs l1 ⊢
  clear hZ
  rw [← hb]
  clear hb
  clear hsz
  refine (fine_calls n _ _ ms cs _ hs).mono ?_
  rintro e w' ⟨rfl, y, rfl⟩
  rw [HF.out]
  replace hs := hs.later y
  replace l1 := l1.later y
  replace S := S.later y
  obtain ⟨Y3, hZ⟩ : ∃ Z : Later W, Z.w = y.w := ⟨Y2.step (y), rfl⟩
  rw [← hZ] at S hs l1 ⊢
  clear hZ
  clear y
  have q0_0 := l1.cell (k := 0) rfl
  have q0_1 := l1.cell (k := 1) rfl
  have q0_2 := l1.cell (k := 2) rfl
  have q0_l := l1.lt
  go_wp2
  clear q0_0 q0_1 q0_2 q0_l
  apply joinK (A := Later Y3.w) (H := fun V T1 T2 => Lin V.w T1 25 [.int .i64 n, .slice none 0 0, .slice none 0 0] ∧ Lin V.w T2 25 [.int .i64 n, .slice none 0 0, .slice none 0 0] ∧ Y3.w.heap.size ≤ T1 ∧ Y3.w.heap.size ≤ T2 ∧ T1 ≠ T2 ∧ B1 ≠ T1 ∧ B1 ≠ T2)
  · intro key
    refine wp_region_held (S := fun w' => Lin w' B1 25 [.int .i64 n, .slice am lm cm, .slice ac lc cc]) (by kernel_rfl) ?_
    show wpAnyH _ _ _ _ _ _ _ _ Y3.w.drew
    obtain ⟨V9, hV9⟩ : ∃ V : Later Y3.w, V.w = Y3.w.drew := ⟨Later.draw Y3.w, rfl⟩
    have lE := l1.later V9
    rw [← hV9]
    clear hV9
    refine wpAnyH_take (i := 0) (v := .pointer (some ⟨B1, 0, none⟩)) rfl (by kernel_rfl) (by kernel_rfl) (by kernel_rfl) (fun _ _ _ h => h) (Yields.yieldsIf (.inl ⟨by rfl, fun w => by rfl⟩)) lE ?_
    simp only [List.getElem_toArray, List.getElem_cons_zero, Act.put, List.setIfInBounds_toArray, List.set]
    refine wpAnyH_take (i := 1) (v := .int .i64 n) rfl (by kernel_rfl) (by kernel_rfl) (by kernel_rfl) (fun _ _ _ h => h) (.inl ⟨by rfl, fun w' hw' => exec_loadI rfl rfl (hw'.cell (k := 0) rfl)⟩) lE ?_
    simp only [List.getElem_toArray, List.getElem_cons_succ, List.getElem_cons_zero, Act.put, List.setIfInBounds_toArray, List.set]
    refine wpAnyH_take (i := 2) (v := .agg #[.int .i64 n, .slice none 0 0, .slice none 0 0]) rfl (by kernel_rfl) (by kernel_rfl) (by kernel_rfl) (fun _ _ _ h => h) (Yields.yieldsIf (.inl ⟨by rfl, fun w => exec_buildN rfl rfl w⟩)) lE ?_
    simp only [List.getElem_toArray, List.getElem_cons_succ, List.getElem_cons_zero, Act.put, List.setIfInBounds_toArray, List.set]
    refine wpAnyH_take (i := 3) (v := .pointer (some ⟨B1, 0, none⟩)) rfl (by kernel_rfl) (by kernel_rfl) (by kernel_rfl) (fun _ _ _ h => h) (Yields.yieldsIf (.inl ⟨by rfl, fun w => by rfl⟩)) lE ?_
    simp only [List.getElem_toArray, List.getElem_cons_succ, List.getElem_cons_zero, Act.put, List.setIfInBounds_toArray, List.set]
    refine wpAnyH_take (i := 4) (v := .int .i64 n) rfl (by kernel_rfl) (by kernel_rfl) (by kernel_rfl) (fun _ _ _ h => h) (.inl ⟨by rfl, fun w' hw' => exec_loadI rfl rfl (hw'.cell (k := 0) rfl)⟩) lE ?_
    simp only [List.getElem_toArray, List.getElem_cons_succ, List.getElem_cons_zero, Act.put, List.setIfInBounds_toArray, List.set]
    refine wpAnyH_take (i := 5) (v := .agg #[.int .i64 n, .slice none 0 0, .slice none 0 0]) rfl (by kernel_rfl) (by kernel_rfl) (by kernel_rfl) (fun _ _ _ h => h) (Yields.yieldsIf (.inl ⟨by rfl, fun w => exec_buildN rfl rfl w⟩)) lE ?_
    simp only [List.getElem_toArray, List.getElem_cons_succ, List.getElem_cons_zero, Act.put, List.setIfInBounds_toArray, List.set]
    refine wpAnyH_all (rs := [6, 7]) (by kernel_rfl) (by simp) (fun i hi => ?_)
    have hi2 : i = 6 ∨ i = 7 := by simpa using hi
    clear hi
    rcases hi2 with rfl | rfl
    · refine wpOp_some rfl (by rfl) (fun K hK => ?_)
      simp only [List.getElem_toArray, List.getElem_cons_succ, List.getElem_cons_zero]
      go_wp2_with fail
      obtain ⟨T1, hTae⟩ : ∃ T, T = V9.w.heap.size := ⟨_, rfl⟩
      obtain ⟨A1, hA1⟩ : ∃ A : Later V9.w, A.w = V9.w.alloc (.cells #[.int .i64 0, .slice none 0 0, .slice none 0 0] 25) := ⟨Later.new _ _, rfl⟩
      have k1 : Lin A1.w T1 25 [.int .i64 0, .slice none 0 0, .slice none 0 0] := by rw [hA1, hTae]; exact Lin.new _ _ [.int .i64 0, .slice none 0 0, .slice none 0 0]
      have lE1 := lE.later A1
      rw [← hA1, ← hTae]
      refine ⟨lE1, ?_⟩
      have hT1 : Y3.w.heap.size ≤ T1 := by rw [hTae]; exact V9.size
      clear hA1 hTae
      obtain ⟨T2, hTbe⟩ : ∃ T, T = A1.w.heap.size := ⟨_, rfl⟩
      obtain ⟨A2, hA2⟩ : ∃ A : Later A1.w, A.w = A1.w.alloc (.cells #[.int .i64 0, .slice none 0 0, .slice none 0 0] 25) := ⟨Later.new _ _, rfl⟩
      have k2 : Lin A2.w T2 25 [.int .i64 0, .slice none 0 0, .slice none 0 0] := by rw [hA2, hTbe]; exact Lin.new _ _ [.int .i64 0, .slice none 0 0, .slice none 0 0]
      have lE2 := lE1.later A2
      have HA2 := Lib.hid hA2
      have HTbe := Lib.hid hTbe
      clear hA2 hTbe
      refine wpAnyH_all (rs := [7]) (by kernel_rfl) (by simp) (fun i hi => ?_)
      obtain rfl : i = 7 := by simpa using hi
      clear hi
      refine wpOp_some rfl (by rfl) (fun K hK => ?_)
      simp only [List.getElem_toArray, List.getElem_cons_succ, List.getElem_cons_zero]
      go_wp2_with fail
      rw [← HA2.out, ← HTbe.out]
      refine ⟨lE2, ?_⟩
      have hT2 : Y3.w.heap.size ≤ T2 := by rw [HTbe.out]; exact Nat.le_trans V9.size A1.size
      have hT12 : T1 ≠ T2 := by have := k1.lt; have := HTbe.out; omega
      have hb1 : B1 ≠ T1 := by have := l1.lt; omega
      have hb2 : B1 ≠ T2 := by have := l1.lt; omega
      replace k1 := k1.later A2
      have hB4 : Below Y3.w.heap.size Y3.w A2.w := ((V9.step A1).step A2).le
      have t0 := k1.cell (k := 0) rfl
      have t1' := k1.cell (k := 1) rfl
      have t2' := k1.cell (k := 2) rfl
      have f0 := k1.frozen 0
      have f1 := k1.frozen 1
      have f2 := k1.frozen 2
      have tl := k1.lt
      have HB := Lib.hid (((hB4.setCell (p := ⟨T1, 0, none⟩) hT1 (.int .i64 n)).setCell (p := ⟨T1, 1, none⟩) hT1 (.slice none 0 0)).setCell (p := ⟨T1, 2, none⟩) hT1 (.slice none 0 0))
      have HK1 := Lib.hid (((k1.set 0 (.int .i64 n)).set 1 (.slice none 0 0)).set 2 (.slice none 0 0))
      have HK2 := Lib.hid (((k2.other (b := T1) (k := 0) hT12.symm (.int .i64 n)).other (b := T1) (k := 1) hT12.symm (.slice none 0 0)).other (b := T1) (k := 2) hT12.symm (.slice none 0 0))
      have HE4 := Lib.hid (((lE2.other (b := T1) (k := 0) hb1 (.int .i64 n)).other (b := T1) (k := 1) hb1 (.slice none 0 0)).other (b := T1) (k := 2) hb1 (.slice none 0 0))
      clear k1 k2 hB4 lE lE1 lE2 HTbe HA2
      refine wpAnyH_all (rs := [8]) (by kernel_rfl) (by simp) (fun i hi => ?_)
      obtain rfl : i = 8 := by simpa using hi
      clear hi
      refine wpOp_some rfl (by rfl) (fun K hK => ?_)
      simp only [List.getElem_toArray, List.getElem_cons_succ, List.getElem_cons_zero]
      go_wp2_with fail
      clear t0 t1' t2' f0 f1 f2 tl
      obtain ⟨U4, hU4⟩ : ∃ U, ((A2.w.setCell ⟨T1, 0, none⟩ (.int .i64 n)).setCell ⟨T1, 1, none⟩ (.slice none 0 0)).setCell ⟨T1, 2, none⟩ (.slice none 0 0) = U := ⟨_, rfl⟩
      rw [hU4] at HB HK1 HK2 HE4 ⊢
      clear hU4
      refine ⟨HE4.out, ?_⟩
      have k2 := HK2.out
      have t0 := k2.cell (k := 0) rfl
      have t1' := k2.cell (k := 1) rfl
      have t2' := k2.cell (k := 2) rfl
      have f0 := k2.frozen 0
      have f1 := k2.frozen 1
      have f2 := k2.frozen 2
      have tl := k2.lt
      have HB2 := Lib.hid (((HB.out.setCell (p := ⟨T2, 0, none⟩) hT2 (.int .i64 n)).setCell (p := ⟨T2, 1, none⟩) hT2 (.slice none 0 0)).setCell (p := ⟨T2, 2, none⟩) hT2 (.slice none 0 0))
      have HL1 := Lib.hid (((HK1.out.other (b := T2) (k := 0) hT12 (.int .i64 n)).other (b := T2) (k := 1) hT12 (.slice none 0 0)).other (b := T2) (k := 2) hT12 (.slice none 0 0))
      have HL2 := Lib.hid (((k2.set 0 (.int .i64 n)).set 1 (.slice none 0 0)).set 2 (.slice none 0 0))
      have HE5 := Lib.hid (((HE4.out.other (b := T2) (k := 0) hb2 (.int .i64 n)).other (b := T2) (k := 1) hb2 (.slice none 0 0)).other (b := T2) (k := 2) hb2 (.slice none 0 0))
      clear k2 HK1 HK2 HB HE4
      refine wpAnyH_all (rs := [9]) (by kernel_rfl) (by simp) (fun i hi => ?_)
      obtain rfl : i = 9 := by simpa using hi
      clear hi
      refine wpOp_some rfl (by rfl) (fun K hK => ?_)
      simp only [List.getElem_toArray, List.getElem_cons_succ, List.getElem_cons_zero]
      go_wp2_with fail
      clear t0 t1' t2' f0 f1 f2 tl
      refine ⟨HE5.out, ?_⟩
      refine wpAnyH_done (by kernel_rfl) ?_ _
      obtain ⟨V1, hV1⟩ : ∃ V1 : Later Y3.w, V1.w = ((U4.setCell ⟨T2, 0, none⟩ (.int .i64 n)).setCell ⟨T2, 1, none⟩ (.slice none 0 0)).setCell ⟨T2, 2, none⟩ (.slice none 0 0) := ⟨⟨_, HB2.out⟩, rfl⟩
      have lq : Lin V1.w T1 25 [.int .i64 n, .slice none 0 0, .slice none 0 0] := by rw [hV1]; exact HL1.out
      have lr : Lin V1.w T2 25 [.int .i64 n, .slice none 0 0, .slice none 0 0] := by rw [hV1]; exact HL2.out
      rw [← hV1]
      clear hV1 HL1 HL2 HB2 HE5
      exact key V1 T1 T2 ⟨lq, lr, hT1, hT2, hT12, hb1, hb2⟩
    · refine wpOp_some rfl (by rfl) (fun K hK => ?_)
      simp only [List.getElem_toArray, List.getElem_cons_succ, List.getElem_cons_zero]
      go_wp2_with fail
      obtain ⟨T2, hTae⟩ : ∃ T, T = V9.w.heap.size := ⟨_, rfl⟩
      obtain ⟨A1, hA1⟩ : ∃ A : Later V9.w, A.w = V9.w.alloc (.cells #[.int .i64 0, .slice none 0 0, .slice none 0 0] 25) := ⟨Later.new _ _, rfl⟩
      have k2 : Lin A1.w T2 25 [.int .i64 0, .slice none 0 0, .slice none 0 0] := by rw [hA1, hTae]; exact Lin.new _ _ [.int .i64 0, .slice none 0 0, .slice none 0 0]
      have lE1 := lE.later A1
      rw [← hA1, ← hTae]
      refine ⟨lE1, ?_⟩
      have hT2 : Y3.w.heap.size ≤ T2 := by rw [hTae]; exact V9.size
      clear hA1 hTae
      obtain ⟨T1, hTbe⟩ : ∃ T, T = A1.w.heap.size := ⟨_, rfl⟩
      obtain ⟨A2, hA2⟩ : ∃ A : Later A1.w, A.w = A1.w.alloc (.cells #[.int .i64 0, .slice none 0 0, .slice none 0 0] 25) := ⟨Later.new _ _, rfl⟩
      have k1 : Lin A2.w T1 25 [.int .i64 0, .slice none 0 0, .slice none 0 0] := by rw [hA2, hTbe]; exact Lin.new _ _ [.int .i64 0, .slice none 0 0, .slice none 0 0]
      have lE2 := lE1.later A2
      have HA2 := Lib.hid hA2
      have HTbe := Lib.hid hTbe
      clear hA2 hTbe
      refine wpAnyH_all (rs := [6]) (by kernel_rfl) (by simp) (fun i hi => ?_)
      obtain rfl : i = 6 := by simpa using hi
      clear hi
      refine wpOp_some rfl (by rfl) (fun K hK => ?_)
      simp only [List.getElem_toArray, List.getElem_cons_succ, List.getElem_cons_zero]
      go_wp2_with fail
      rw [← HA2.out, ← HTbe.out]
      refine ⟨lE2, ?_⟩
      have hT1 : Y3.w.heap.size ≤ T1 := by rw [HTbe.out]; exact Nat.le_trans V9.size A1.size
      have hT12 : T1 ≠ T2 := by have := k2.lt; have := HTbe.out; omega
      have hb1 : B1 ≠ T1 := by have := l1.lt; omega
      have hb2 : B1 ≠ T2 := by have := l1.lt; omega
      replace k2 := k2.later A2
      have hB4 : Below Y3.w.heap.size Y3.w A2.w := ((V9.step A1).step A2).le
      have t0 := k1.cell (k := 0) rfl
      have t1' := k1.cell (k := 1) rfl
      have t2' := k1.cell (k := 2) rfl
      have f0 := k1.frozen 0
      have f1 := k1.frozen 1
      have f2 := k1.frozen 2
      have tl := k1.lt
      have HB := Lib.hid (((hB4.setCell (p := ⟨T1, 0, none⟩) hT1 (.int .i64 n)).setCell (p := ⟨T1, 1, none⟩) hT1 (.slice none 0 0)).setCell (p := ⟨T1, 2, none⟩) hT1 (.slice none 0 0))
      have HK1 := Lib.hid (((k1.set 0 (.int .i64 n)).set 1 (.slice none 0 0)).set 2 (.slice none 0 0))
      have HK2 := Lib.hid (((k2.other (b := T1) (k := 0) hT12.symm (.int .i64 n)).other (b := T1) (k := 1) hT12.symm (.slice none 0 0)).other (b := T1) (k := 2) hT12.symm (.slice none 0 0))
      have HE4 := Lib.hid (((lE2.other (b := T1) (k := 0) hb1 (.int .i64 n)).other (b := T1) (k := 1) hb1 (.slice none 0 0)).other (b := T1) (k := 2) hb1 (.slice none 0 0))
      clear k1 k2 hB4 lE lE1 lE2 HTbe HA2
      refine wpAnyH_all (rs := [8]) (by kernel_rfl) (by simp) (fun i hi => ?_)
      obtain rfl : i = 8 := by simpa using hi
      clear hi
      refine wpOp_some rfl (by rfl) (fun K hK => ?_)
      simp only [List.getElem_toArray, List.getElem_cons_succ, List.getElem_cons_zero]
      go_wp2_with fail
      clear t0 t1' t2' f0 f1 f2 tl
      obtain ⟨U4, hU4⟩ : ∃ U, ((A2.w.setCell ⟨T1, 0, none⟩ (.int .i64 n)).setCell ⟨T1, 1, none⟩ (.slice none 0 0)).setCell ⟨T1, 2, none⟩ (.slice none 0 0) = U := ⟨_, rfl⟩
      rw [hU4] at HB HK1 HK2 HE4 ⊢
      clear hU4
      refine ⟨HE4.out, ?_⟩
      have k2 := HK2.out
      have t0 := k2.cell (k := 0) rfl
      have t1' := k2.cell (k := 1) rfl
      have t2' := k2.cell (k := 2) rfl
      have f0 := k2.frozen 0
      have f1 := k2.frozen 1
      have f2 := k2.frozen 2
      have tl := k2.lt
      have HB2 := Lib.hid (((HB.out.setCell (p := ⟨T2, 0, none⟩) hT2 (.int .i64 n)).setCell (p := ⟨T2, 1, none⟩) hT2 (.slice none 0 0)).setCell (p := ⟨T2, 2, none⟩) hT2 (.slice none 0 0))
      have HL1 := Lib.hid (((HK1.out.other (b := T2) (k := 0) hT12 (.int .i64 n)).other (b := T2) (k := 1) hT12 (.slice none 0 0)).other (b := T2) (k := 2) hT12 (.slice none 0 0))
      have HL2 := Lib.hid (((k2.set 0 (.int .i64 n)).set 1 (.slice none 0 0)).set 2 (.slice none 0 0))
      have HE5 := Lib.hid (((HE4.out.other (b := T2) (k := 0) hb2 (.int .i64 n)).other (b := T2) (k := 1) hb2 (.slice none 0 0)).other (b := T2) (k := 2) hb2 (.slice none 0 0))
      clear k2 HK1 HK2 HB HE4
      refine wpAnyH_all (rs := [9]) (by kernel_rfl) (by simp) (fun i hi => ?_)
      obtain rfl : i = 9 := by simpa using hi
      clear hi
      refine wpOp_some rfl (by rfl) (fun K hK => ?_)
      simp only [List.getElem_toArray, List.getElem_cons_succ, List.getElem_cons_zero]
      go_wp2_with fail
      clear t0 t1' t2' f0 f1 f2 tl
      refine ⟨HE5.out, ?_⟩
      refine wpAnyH_done (by kernel_rfl) ?_ _
      obtain ⟨V1, hV1⟩ : ∃ V1 : Later Y3.w, V1.w = ((U4.setCell ⟨T2, 0, none⟩ (.int .i64 n)).setCell ⟨T2, 1, none⟩ (.slice none 0 0)).setCell ⟨T2, 2, none⟩ (.slice none 0 0) := ⟨⟨_, HB2.out⟩, rfl⟩
      have lq : Lin V1.w T1 25 [.int .i64 n, .slice none 0 0, .slice none 0 0] := by rw [hV1]; exact HL1.out
      have lr : Lin V1.w T2 25 [.int .i64 n, .slice none 0 0, .slice none 0 0] := by rw [hV1]; exact HL2.out
      rw [← hV1]
      clear hV1 HL1 HL2 HB2 HE5
      exact key V1 T1 T2 ⟨lq, lr, hT1, hT2, hT12, hb1, hb2⟩
  · intro V1 T1 T2 hall
    obtain ⟨lq, lr, hT1, hT2, hT12, hb1, hb2⟩ := hall
    have htw := Two.made (W := Y3.w) V1.le lq lr hT1 hT2 hT12
    clear lq lr hT1 hT2 hT12 hb1 hb2
    obtain ⟨V0, hV0⟩ : ∃ V : Later Y3.w, V.w = V1.w := ⟨V1, rfl⟩
    rw [← hV0] at htw ⊢
    clear hV0 V1
    try simp only [hkv]
    go_wp2
    go_loopw [12, 13, 14] (fun i0 _ _ wr => ∃ (k : Nat) (V : Later Y3.w) (mx my : Value), wr = V.w ∧ k ≤ mn.length ∧ i0 = .int .i64 k ∧ Two Y3.w V.w T1 T2 n mx (.slice none 0 0) mx (.slice none 0 0) my (.slice none 0 0) (tkM (turnP kk) mn k) [] (tkM (backP n) mn k) []) (fun i0 _ _ _ => mn.length - (intOf i0).toNat)
    case atStart => exact ⟨0, V0, _, _, rfl, Nat.zero_le _, rfl, htw⟩
    clear htw
    obtain ⟨k, V, mx, my, rfl, hk, rfl, htw⟩ := hrel
    obtain ⟨ax, nmx, cmx, rfl⟩ := htw.x.formM
    obtain ⟨ay, nmy, cmy, rfl⟩ := htw.y.formM
    by_cases hlt : k < lm
    · have hkm : k < mn.length := by have := HLM.out; omega
      have hkt : k < ms.length := by rw [← HML.out]; exact hlt
      obtain ⟨bm, om, km, e, hkc, hbm, hgm⟩ := (hs.m.later V).at (k := k) hkt
      injection e with e1 e2 e3
      subst e1 e3
      obtain ⟨g1, g2⟩ := hgm k hkt
      obtain ⟨pa, hpa⟩ : ∃ v, mn[k].1 = v := ⟨_, rfl⟩
      obtain ⟨pb, hpb⟩ : ∃ v, mn[k].2 = v := ⟨_, rfl⟩
      have hpr : pr ms k = ((pa : Int), (pb : Int)) := by rw [pr_eq hkt]; simp only [HMS.out, List.getElem_map, prI, hpa, hpb]
      rw [hpr] at g1 g2
      have hpab := HS.out.mr _ (List.getElem_mem hkm)
      rw [hpa, hpb] at hpab
      obtain ⟨hpa2, hpb2⟩ := hpab
      have HSX := Lib.hid (tkM_succ (turnP kk) mn hkm)
      have HSY := Lib.hid (tkM_succ (backP n) mn hkm)
      rw [hpa, hpb] at HSX HSY
      clear hgm hpr hpa hpb e2 hkt
      obtain ⟨ra, hra⟩ : ∃ v, turnP kk pa = v := ⟨_, rfl⟩
      obtain ⟨rb, hrb⟩ : ∃ v, turnP kk pb = v := ⟨_, rfl⟩
      obtain ⟨sa, hsa⟩ : ∃ v, backP n pa = v := ⟨_, rfl⟩
      obtain ⟨sb, hsb⟩ : ∃ v, backP n pb = v := ⟨_, rfl⟩
      rw [hra, hrb] at HSX
      rw [hsa, hsb] at HSY
      have HRA := Lib.hid hra
      have HRB := Lib.hid hrb
      have HSA := Lib.hid hsa
      have HSB := Lib.hid hsb
      clear hra hrb hsa hsb
      have hlenx := tkM_len (turnP kk) mn k
      have hleny := tkM_len (backP n) mn k
      have lA := l1.later V
      have p0 := lA.cell (k := 0) rfl
      have p1 := lA.cell (k := 1) rfl
      have p2 := lA.cell (k := 2) rfl
      have pA := lA.lt
      go_wp2
      refine Mix.region_mixL (Mix.kinds [] [] []) (by kernel_rfl) (by kernel_rfl) ?_
      repeat ((with_reducible refine Mix.atCons ?_); first | refine Mix.skipU (by rfl) rfl (by rfl) ?_ | (refine Mix.val rfl rfl (by rfl) (fun K hK => ?_); go_big_quiet_op; refine hK _ ?_; clear hK K) | (refine Mix.skip (by rfl) ?_; go_frame))
      refine Mix.done (fun x0 => ?_)
      replace htw := htw.later x0
      obtain ⟨V1, hV1⟩ : ∃ V : Later Y3.w, V.w = x0.w := ⟨V.step x0, rfl⟩
      rw [← hV1] at htw ⊢
      clear hV1 x0 g1 g2
      clear lA p0 p1 p2 pA
      have lX := htw.x.lin
      have u1 := lX.cell (k := 1) rfl
      have uX := lX.lt
      go_wp2
      refine Mix.region_mixL (Mix.kinds [9] [4, 7] [10, 11, 12]) (by kernel_rfl) (by kernel_rfl) ?_
      repeat ((with_reducible refine Mix.atCons ?_); first | refine Mix.skipU (by rfl) rfl (by rfl) ?_ | (refine Mix.val rfl rfl (by rfl) (fun K hK => ?_); go_big_quiet_op; refine hK _ ?_; clear hK K) | (refine Mix.skip (by rfl) ?_; go_frame))
      refine Mix.loud rfl (by rfl) (fun z0 K hK => ?_)
      go_wp2_with fail
      refine (turned_calls pa kk (by omega) (by omega) _).mono ?_
      rintro e w' ⟨rfl, hw⟩
      rw [hw, HRA.out]
      refine hK _ (Later.self _) ?_
      clear hK K hw w'
      simp only [Later.self_w]
      try go_frame
      repeat ((with_reducible refine Mix.atCons ?_); first | refine Mix.skipU (by rfl) rfl (by rfl) ?_ | (refine Mix.val rfl rfl (by rfl) (fun K hK => ?_); go_big_quiet_op; refine hK _ ?_; clear hK K) | (refine Mix.skip (by rfl) ?_; go_frame))
      refine Mix.loud rfl (by rfl) (fun z1 K hK => ?_)
      go_wp2_with fail
      refine (turned_calls pb kk (by omega) (by omega) _).mono ?_
      rintro e w' ⟨rfl, hw⟩
      rw [hw, HRB.out]
      refine hK _ (Later.self _) ?_
      clear hK K hw w'
      simp only [Later.self_w]
      try go_frame
      repeat ((with_reducible refine Mix.atCons ?_); first | refine Mix.skipU (by rfl) rfl (by rfl) ?_ | (refine Mix.val rfl rfl (by rfl) (fun K hK => ?_); go_big_quiet_op; refine hK _ ?_; clear hK K) | (refine Mix.skip (by rfl) ?_; go_frame))
      refine Mix.new rfl (by rfl) (fun b => .slice (some ⟨b, 0, none⟩) 1 1) (.cells #[.int .i64 ra, .int .i64 rb] 55) (fun w => by simp [go_sem]) (fun E4 x4 hE4 hx4 => ?_)
      try go_frame
      repeat ((with_reducible refine Mix.atCons ?_); first | refine Mix.skipU (by rfl) rfl (by rfl) ?_ | (refine Mix.val rfl rfl (by rfl) (fun K hK => ?_); go_big_quiet_op; refine hK _ ?_; clear hK K) | (refine Mix.skip (by rfl) ?_; go_frame))
      refine Mix.lastR rfl (by rfl) (by decide) (fun x5 K5 hK5 => ?_)
      have ht5 := ((((htw.later z0).later z1).later x4).later x5)
      have hc0 : x5.w.cell? ⟨E4, 0, none⟩ = some (.int .i64 ra) := by
        have h1 := (x5.le.block E4 (Array.getElem?_eq_some_iff.1 hx4).1).trans hx4
        simp [World.cell?, h1]
      have hc1 : x5.w.cell? ⟨E4, 1, none⟩ = some (.int .i64 rb) := by
        have h1 := (x5.le.block E4 (Array.getElem?_eq_some_iff.1 hx4).1).trans hx4
        simp [World.cell?, h1]
      obtain ⟨v6, w6, hr6, ht6⟩ := ht5.appM E4 1 ra rb hc0 hc1 (by omega) 22
      obtain ⟨a7, n7, c7, rfl⟩ := ht6.x.formM
      refine Lib.wp_append_run_sl _ _ _ 22 rfl _ _ rfl rfl hr6 ?_
      refine hK5 _ _ ?_
      clear hK5 K5 hr6 hc0 hc1 ht5 hx4
      try go_frame
      refine Mix.lastR rfl (by rfl) (by decide) (fun x7 K7 hK7 => ?_)
      go_wp2_with fail
      try go_frame
      refine Mix.last rfl (by rfl) (fun x8 K8 hK8 => ?_)
      have ht8 := (ht6.later x7).later x8
      have lX8 := ht8.x.lin
      have v1' := lX8.cell (k := 1) rfl
      have v1f := lX8.frozen 1
      have v1l := lX8.lt
      have HT9 := Lib.hid ht8.setM
      clear ht8 lX8 ht6
      go_wp2_with fail
      clear v1' v1f v1l
      refine Mix.done (fun x9 => ?_)
      have ht9 := HT9.out.later x9
      obtain ⟨V2, hV9⟩ : ∃ V : Later Y3.w, V.w = x9.w := ⟨⟨_, ht9.x.le⟩, rfl⟩
      rw [← hV9] at ht9 ⊢
      clear hV9 HT9 x9 lX u1 uX htw
      have htw := ht9
      clear ht9
      replace htw := htw.swap
      have lA := l1.later V2
      have p0 := lA.cell (k := 0) rfl
      have p1 := lA.cell (k := 1) rfl
      have p2 := lA.cell (k := 2) rfl
      have pA := lA.lt
      have lX := htw.x.lin
      have u1 := lX.cell (k := 1) rfl
      have uX := lX.lt
      go_wp2
      refine Mix.region_mixL (Mix.kinds [11] [5, 9] [12, 13, 14]) (by kernel_rfl) (by kernel_rfl) ?_
      repeat ((with_reducible refine Mix.atCons ?_); first | refine Mix.skipU (by rfl) rfl (by rfl) ?_ | (refine Mix.val rfl rfl (by rfl) (fun K hK => ?_); go_big_quiet_op; refine hK _ ?_; clear hK K) | (refine Mix.skip (by rfl) ?_; go_frame))
      refine Mix.loud rfl (by rfl) (fun z0 K hK => ?_)
      go_wp2_with fail
      refine (back_calls pa n h10 hpa2 _).mono ?_
      rintro e w' ⟨rfl, hw⟩
      rw [hw, HSA.out]
      refine hK _ (Later.self _) ?_
      clear hK K hw w'
      simp only [Later.self_w]
      try go_frame
      repeat ((with_reducible refine Mix.atCons ?_); first | refine Mix.skipU (by rfl) rfl (by rfl) ?_ | (refine Mix.val rfl rfl (by rfl) (fun K hK => ?_); go_big_quiet_op; refine hK _ ?_; clear hK K) | (refine Mix.skip (by rfl) ?_; go_frame))
      refine Mix.loud rfl (by rfl) (fun z1 K hK => ?_)
      go_wp2_with fail
      refine (back_calls pb n h10 hpb2 _).mono ?_
      rintro e w' ⟨rfl, hw⟩
      rw [hw, HSB.out]
      refine hK _ (Later.self _) ?_
      clear hK K hw w'
      simp only [Later.self_w]
      try go_frame
      repeat ((with_reducible refine Mix.atCons ?_); first | refine Mix.skipU (by rfl) rfl (by rfl) ?_ | (refine Mix.val rfl rfl (by rfl) (fun K hK => ?_); go_big_quiet_op; refine hK _ ?_; clear hK K) | (refine Mix.skip (by rfl) ?_; go_frame))
      refine Mix.new rfl (by rfl) (fun b => .slice (some ⟨b, 0, none⟩) 1 1) (.cells #[.int .i64 sa, .int .i64 sb] 55) (fun w => by simp [go_sem]) (fun E4 x4 hE4 hx4 => ?_)
      try go_frame
      repeat ((with_reducible refine Mix.atCons ?_); first | refine Mix.skipU (by rfl) rfl (by rfl) ?_ | (refine Mix.val rfl rfl (by rfl) (fun K hK => ?_); go_big_quiet_op; refine hK _ ?_; clear hK K) | (refine Mix.skip (by rfl) ?_; go_frame))
      refine Mix.lastR rfl (by rfl) (by decide) (fun x5 K5 hK5 => ?_)
      have ht5 := ((((htw.later z0).later z1).later x4).later x5)
      have hc0 : x5.w.cell? ⟨E4, 0, none⟩ = some (.int .i64 sa) := by
        have h1 := (x5.le.block E4 (Array.getElem?_eq_some_iff.1 hx4).1).trans hx4
        simp [World.cell?, h1]
      have hc1 : x5.w.cell? ⟨E4, 1, none⟩ = some (.int .i64 sb) := by
        have h1 := (x5.le.block E4 (Array.getElem?_eq_some_iff.1 hx4).1).trans hx4
        simp [World.cell?, h1]
      obtain ⟨v6, w6, hr6, ht6⟩ := ht5.appM E4 1 sa sb hc0 hc1 (by omega) 22
      obtain ⟨a7, n7, c7, rfl⟩ := ht6.x.formM
      refine Lib.wp_append_run_sl _ _ _ 22 rfl _ _ rfl rfl hr6 ?_
      refine hK5 _ _ ?_
      clear hK5 K5 hr6 hc0 hc1 ht5 hx4
      try go_frame
      refine Mix.lastR rfl (by rfl) (by decide) (fun x7 K7 hK7 => ?_)
      go_wp2_with fail
      try go_frame
      refine Mix.last rfl (by rfl) (fun x8 K8 hK8 => ?_)
      have ht8 := (ht6.later x7).later x8
      have lX8 := ht8.x.lin
      have v1' := lX8.cell (k := 1) rfl
      have v1f := lX8.frozen 1
      have v1l := lX8.lt
      have HT9 := Lib.hid ht8.setM
      clear ht8 lX8 ht6
      go_wp2_with fail
      clear v1' v1f v1l
      refine Mix.done (fun x9 => ?_)
      have ht9 := HT9.out.later x9
      obtain ⟨V3, hV9⟩ : ∃ V : Later Y3.w, V.w = x9.w := ⟨⟨_, ht9.x.le⟩, rfl⟩
      rw [← hV9] at ht9 ⊢
      clear hV9 HT9 x9 lX u1 uX htw
      have htw := ht9
      clear ht9
      clear lA p0 p1 p2 pA
      replace htw := htw.swap
      go_wp2
      go_roundw
      case rel => first | exact ⟨k + 1, V3, _, _, rfl, by omega, by go_num, by rw [HSX.out, HSY.out]; exact htw⟩ | ((repeat apply Exists.intro); exact ⟨⟨k + 1, V3, _, _, rfl, by omega, by go_num, by rw [HSX.out, HSY.out]; exact htw⟩, rfl⟩)
      case measure => simp [intOf]; omega
    obtain rfl : k = mn.length := by have := HLM.out; omega
    rw [tkM_all, tkM_all] at htw
    have lA := l1.later V
    have p0 := lA.cell (k := 0) rfl
    have p1 := lA.cell (k := 1) rfl
    have p2 := lA.cell (k := 2) rfl
    have pA := lA.lt
    go_wp2
    clear lA p0 p1 p2 pA
    go_loopw [15] (fun i0 wr => ∃ (k : Nat) (V : Later Y3.w) (cx cy : Value), wr = V.w ∧ k ≤ cn.length ∧ i0 = .int .i64 k ∧ Two Y3.w V.w T1 T2 n (.slice ax nmx cmx) cx (.slice ax nmx cmx) cx (.slice ay nmy cmy) cy ((mapM (turnP kk) mn).map prI) (tkC (turnP kk) cn k) ((mapM (backP n) mn).map prI) (tkC (backP n) cn k)) (fun i0 _ => cn.length - (intOf i0).toNat)
    case atStart => exact ⟨0, V, _, _, rfl, Nat.zero_le _, rfl, htw⟩
    clear htw hlt
    obtain ⟨k, W2, cx, cy, rfl, hk, rfl, htw⟩ := hrel
    obtain ⟨acx, ncx, ccx, rfl⟩ := htw.x.formC
    obtain ⟨acy, ncy, ccy, rfl⟩ := htw.y.formC
    by_cases hlt : k < lc
    · have hkm : k < cn.length := by have := HLC.out; omega
      have hkt : k < cs.length := by rw [← HCL.out]; exact hlt
      obtain ⟨bm, om, km, e, hkc, hbm, hgm⟩ := hs.c.at (k := k) hkt
      injection e with e1 e2 e3
      subst e1 e3
      have g0 := hgm k hkt
      obtain ⟨pa, hpa⟩ : ∃ v, cn[k] = v := ⟨_, rfl⟩
      have hpr : nth cs k = (pa : Int) := by rw [nth_eq hkt]; simp only [HCS.out, List.getElem_map, hpa]
      rw [hpr] at g0
      have hpa2 := HS.out.cr _ (List.getElem_mem hkm)
      rw [hpa] at hpa2
      have HSX := Lib.hid (tkC_succ (turnP kk) cn hkm)
      have HSY := Lib.hid (tkC_succ (backP n) cn hkm)
      rw [hpa] at HSX HSY
      clear hgm hpr hpa e2 hkt
      obtain ⟨ra, hra⟩ : ∃ v, turnP kk pa = v := ⟨_, rfl⟩
      obtain ⟨sa, hsa⟩ : ∃ v, backP n pa = v := ⟨_, rfl⟩
      rw [hra] at HSX
      rw [hsa] at HSY
      have HRA := Lib.hid hra
      have HSA := Lib.hid hsa
      clear hra hsa
      have hlenx := tkC_len (turnP kk) cn k
      have hleny := tkC_len (backP n) cn k
      have lA := l1.later W2
      have p0 := lA.cell (k := 0) rfl
      have p1 := lA.cell (k := 1) rfl
      have p2 := lA.cell (k := 2) rfl
      have pA := lA.lt
      have g1 := (W2.cell hbm).trans g0
      have hb1 := Nat.lt_of_lt_of_le hbm W2.size
      have lX := htw.x.lin
      have u1 := lX.cell (k := 2) rfl
      have uX := lX.lt
      go_wp2
      refine Mix.region_mixL (Mix.kinds [9] [8] [10, 11, 12]) (by kernel_rfl) (by kernel_rfl) ?_
      repeat ((with_reducible refine Mix.atCons ?_); first | refine Mix.skipU (by rfl) rfl (by rfl) ?_ | (refine Mix.val rfl rfl (by rfl) (fun K hK => ?_); go_big_quiet_op; refine hK _ ?_; clear hK K) | (refine Mix.skip (by rfl) ?_; go_frame))
      refine Mix.loud rfl (by rfl) (fun z0 K hK => ?_)
      go_wp2_with fail
      refine (turned_calls pa kk (by omega) (by omega) _).mono ?_
      rintro e w' ⟨rfl, hw⟩
      rw [hw, HRA.out]
      refine hK _ (Later.self _) ?_
      clear hK K hw w'
      simp only [Later.self_w]
      try go_frame
      repeat ((with_reducible refine Mix.atCons ?_); first | refine Mix.skipU (by rfl) rfl (by rfl) ?_ | (refine Mix.val rfl rfl (by rfl) (fun K hK => ?_); go_big_quiet_op; refine hK _ ?_; clear hK K) | (refine Mix.skip (by rfl) ?_; go_frame))
      refine Mix.new rfl (by rfl) (fun b => .slice (some ⟨b, 0, none⟩) 1 1) (.cells #[.int .i64 ra] 3) (fun w => by simp [go_sem]) (fun E4 x4 hE4 hx4 => ?_)
      try go_frame
      repeat ((with_reducible refine Mix.atCons ?_); first | refine Mix.skipU (by rfl) rfl (by rfl) ?_ | (refine Mix.val rfl rfl (by rfl) (fun K hK => ?_); go_big_quiet_op; refine hK _ ?_; clear hK K) | (refine Mix.skip (by rfl) ?_; go_frame))
      refine Mix.lastR rfl (by rfl) (by decide) (fun x5 K5 hK5 => ?_)
      have ht5 := (((htw.later z0).later x4).later x5)
      have hc0 : x5.w.cell? ⟨E4, 0, none⟩ = some (.int .i64 ra) := by
        have h1 := (x5.le.block E4 (Array.getElem?_eq_some_iff.1 hx4).1).trans hx4
        simp [World.cell?, h1]
      obtain ⟨v6, w6, hr6, ht6⟩ := ht5.appC E4 1 ra hc0 (by omega) 23
      obtain ⟨a7, n7, c7, rfl⟩ := ht6.x.formC
      refine Lib.wp_append_run_sl _ _ _ 23 rfl _ _ rfl rfl hr6 ?_
      refine hK5 _ _ ?_
      clear hK5 K5 hr6 hc0 ht5 hx4
      try go_frame
      refine Mix.lastR rfl (by rfl) (by decide) (fun x7 K7 hK7 => ?_)
      go_wp2_with fail
      try go_frame
      refine Mix.last rfl (by rfl) (fun x8 K8 hK8 => ?_)
      have ht8 := (ht6.later x7).later x8
      have lX8 := ht8.x.lin
      have v1' := lX8.cell (k := 2) rfl
      have v1f := lX8.frozen 2
      have v1l := lX8.lt
      have HT9 := Lib.hid ht8.setC
      clear ht8 lX8 ht6
      go_wp2_with fail
      clear v1' v1f v1l
      refine Mix.done (fun x9 => ?_)
      have ht9 := HT9.out.later x9
      obtain ⟨V2, hV9⟩ : ∃ V : Later Y3.w, V.w = x9.w := ⟨⟨_, ht9.x.le⟩, rfl⟩
      rw [← hV9] at ht9 ⊢
      clear hV9 HT9 x9 lX u1 uX htw
      have htw := ht9
      clear ht9
      clear lA p0 p1 p2 pA
      clear g1 hb1
      replace htw := htw.swap
      have lA := l1.later V2
      have p0 := lA.cell (k := 0) rfl
      have p1 := lA.cell (k := 1) rfl
      have p2 := lA.cell (k := 2) rfl
      have pA := lA.lt
      have g1 := (V2.cell hbm).trans g0
      have hb1 := Nat.lt_of_lt_of_le hbm V2.size
      have lX := htw.x.lin
      have u1 := lX.cell (k := 2) rfl
      have uX := lX.lt
      go_wp2
      refine Mix.region_mixL (Mix.kinds [10] [9] [11, 12, 13]) (by kernel_rfl) (by kernel_rfl) ?_
      repeat ((with_reducible refine Mix.atCons ?_); first | refine Mix.skipU (by rfl) rfl (by rfl) ?_ | (refine Mix.val rfl rfl (by rfl) (fun K hK => ?_); go_big_quiet_op; refine hK _ ?_; clear hK K) | (refine Mix.skip (by rfl) ?_; go_frame))
      refine Mix.loud rfl (by rfl) (fun z0 K hK => ?_)
      go_wp2_with fail
      refine (back_calls pa n h10 hpa2 _).mono ?_
      rintro e w' ⟨rfl, hw⟩
      rw [hw, HSA.out]
      refine hK _ (Later.self _) ?_
      clear hK K hw w'
      simp only [Later.self_w]
      try go_frame
      repeat ((with_reducible refine Mix.atCons ?_); first | refine Mix.skipU (by rfl) rfl (by rfl) ?_ | (refine Mix.val rfl rfl (by rfl) (fun K hK => ?_); go_big_quiet_op; refine hK _ ?_; clear hK K) | (refine Mix.skip (by rfl) ?_; go_frame))
      refine Mix.new rfl (by rfl) (fun b => .slice (some ⟨b, 0, none⟩) 1 1) (.cells #[.int .i64 sa] 3) (fun w => by simp [go_sem]) (fun E4 x4 hE4 hx4 => ?_)
      try go_frame
      repeat ((with_reducible refine Mix.atCons ?_); first | refine Mix.skipU (by rfl) rfl (by rfl) ?_ | (refine Mix.val rfl rfl (by rfl) (fun K hK => ?_); go_big_quiet_op; refine hK _ ?_; clear hK K) | (refine Mix.skip (by rfl) ?_; go_frame))
      refine Mix.lastR rfl (by rfl) (by decide) (fun x5 K5 hK5 => ?_)
      have ht5 := (((htw.later z0).later x4).later x5)
      have hc0 : x5.w.cell? ⟨E4, 0, none⟩ = some (.int .i64 sa) := by
        have h1 := (x5.le.block E4 (Array.getElem?_eq_some_iff.1 hx4).1).trans hx4
        simp [World.cell?, h1]
      obtain ⟨v6, w6, hr6, ht6⟩ := ht5.appC E4 1 sa hc0 (by omega) 23
      obtain ⟨a7, n7, c7, rfl⟩ := ht6.x.formC
      refine Lib.wp_append_run_sl _ _ _ 23 rfl _ _ rfl rfl hr6 ?_
      refine hK5 _ _ ?_
      clear hK5 K5 hr6 hc0 ht5 hx4
      try go_frame
      refine Mix.lastR rfl (by rfl) (by decide) (fun x7 K7 hK7 => ?_)
      go_wp2_with fail
      try go_frame
      refine Mix.last rfl (by rfl) (fun x8 K8 hK8 => ?_)
      have ht8 := (ht6.later x7).later x8
      have lX8 := ht8.x.lin
      have v1' := lX8.cell (k := 2) rfl
      have v1f := lX8.frozen 2
      have v1l := lX8.lt
      have HT9 := Lib.hid ht8.setC
      clear ht8 lX8 ht6
      go_wp2_with fail
      clear v1' v1f v1l
      refine Mix.done (fun x9 => ?_)
      have ht9 := HT9.out.later x9
      obtain ⟨V3, hV9⟩ : ∃ V : Later Y3.w, V.w = x9.w := ⟨⟨_, ht9.x.le⟩, rfl⟩
      rw [← hV9] at ht9 ⊢
      clear hV9 HT9 x9 lX u1 uX htw
      have htw := ht9
      clear ht9
      clear lA p0 p1 p2 pA
      clear g1 hb1
      replace htw := htw.swap
      go_wp2
      go_roundw
      case rel => first | exact ⟨k + 1, V3, _, _, rfl, by omega, by go_num, by rw [HSX.out, HSY.out]; exact htw⟩ | ((repeat apply Exists.intro); exact ⟨⟨k + 1, V3, _, _, rfl, by omega, by go_num, by rw [HSX.out, HSY.out]; exact htw⟩, rfl⟩)
      case measure => simp [intOf]; omega
    obtain rfl : k = cn.length := by have := HLC.out; omega
    rw [tkC_all, tkC_all] at htw
    have lx := htw.x.lin
    have ly := htw.y.lin
    obtain ⟨px, hpx⟩ : ∃ P, ((mapM (turnP kk) mn).map prI) = P := ⟨_, rfl⟩
    obtain ⟨py, hpy⟩ : ∃ P, ((mapM (backP n) mn).map prI) = P := ⟨_, rfl⟩
    obtain ⟨cx, hcx⟩ : ∃ P, ((cn.map (turnP kk)).map fun (c : Nat) => (c : Int)) = P := ⟨_, rfl⟩
    obtain ⟨cy, hcy⟩ : ∃ P, ((cn.map (backP n)).map fun (c : Nat) => (c : Int)) = P := ⟨_, rfl⟩
    have hsx := htw.x.sht (by simp [mapM]; omega) (by simp; omega)
    have hsy := htw.y.sht (by simp [mapM]; omega) (by simp; omega)
    rw [hpx, hcx] at hsx
    rw [hpy, hcy] at hsy
    have HPX := Lib.hid hpx
    have HPY := Lib.hid hpy
    have HCX := Lib.hid hcx
    have HCY := Lib.hid hcy
    clear hpx hpy hcx hcy htw hk
    replace hs := hs.later W2
    replace l1 := l1.later W2
    replace S := S.later W2
    obtain ⟨Y4, hZ⟩ : ∃ Z : Later Y3.w, Z.w = W2.w := ⟨W2, rfl⟩
    rw [← hZ] at S hs l1 lx ly hsx hsy ⊢
    clear hZ
    obtain ⟨a, E, K, m, ha, ea, eb, ec, na, nb, nc, ka, kb, kc, fa, fb, fc, ma, mb, mc, va, vb, vc⟩ := turned_facts HS.out HN.out kk hpn HMS.out HCS.out HPX.out.symm HCX.out.symm HPY.out.symm HCY.out.symm
    have H_ea := Lib.hid ea
    have H_eb := Lib.hid eb
    have H_ec := Lib.hid ec
    have H_na := Lib.hid na
    have H_nb := Lib.hid nb
    have H_nc := Lib.hid nc
    have H_ka := Lib.hid ka
    have H_kb := Lib.hid kb
    have H_kc := Lib.hid kc
    have H_fa := Lib.hid fa
    have H_fb := Lib.hid fb
    have H_fc := Lib.hid fc
    have H_ma := Lib.hid ma
    have H_mb := Lib.hid mb
    have H_mc := Lib.hid mc
    have H_va := Lib.hid va
    have H_vb := Lib.hid vb
    have H_vc := Lib.hid vc
    clear ea eb ec na nb nc ka kb kc fa fb fc ma mb mc va vb vc
    have q0_0 := l1.cell (k := 0) rfl
    have q0_1 := l1.cell (k := 1) rfl
    have q0_2 := l1.cell (k := 2) rfl
    have q0_l := l1.lt
    go_wp2_with fail
    clear q0_0 q0_1 q0_2 q0_l
    refine (Some_calls n b _ _ ms cs h10 _ hs).mono ?_
    rintro e w' ⟨v, y, rfl, rfl, hR⟩
    rw [HND.out] at hR
    replace hs := hs.later y
    replace l1 := l1.later y
    replace lx := lx.later y
    replace ly := ly.later y
    replace hsx := hsx.later y
    replace hsy := hsy.later y
    replace S := S.later y
    obtain ⟨a5, n5, c5, rfl⟩ : ∃ a n c, v = .slice a n c := by obtain ⟨a, c, e⟩ := hR.form; exact ⟨a, _, c, e⟩
    replace S := S.cons hR
    obtain ⟨Y6, hZ⟩ : ∃ Z : Later Y3.w, Z.w = y.w := ⟨Y4.step (y), rfl⟩
    rw [← hZ] at S hs l1 lx ly hsx hsy ⊢
    clear hZ
    clear y hR
    obtain rfl : nl = n5 := by obtain ⟨a, c, e⟩ := (S.at (v := .slice a5 n5 c5) (xs := (natV N)) (by simp)).form; cases e; exact (by rw [natV_len, HNL.out])
    clear hlt
    have p_0 := l1.cell (k := 0) rfl
    have p_1 := l1.cell (k := 1) rfl
    have p_2 := l1.cell (k := 2) rfl
    have p_l := l1.lt
    go_wp2
    clear p_0 p_1 p_2 p_l
    go_loopw [17, 18] (fun ov i0 wr => ∃ (k : Nat) (u : Later Y6.w), wr = u.w ∧ k ≤ nl ∧ i0 = .int .i64 ((nl : Int) - 1 - (k : Int)) ∧ IntsM Y6.w.heap.size u.w ov (tkN n N k)) (fun _ i0 _ => (intOf i0 + 1).toNat)
    case atStart => exact ⟨0, Later.self _, rfl, Nat.zero_le _, by congr 1; omega, World.ownsRow_nil _ _ _ _⟩
    obtain ⟨k, u, rfl, hk, rfl, hO⟩ := hrel
    obtain ⟨ao, no, co, rfl⟩ := hO.form'
    replace hs := hs.later u
    replace l1 := l1.later u
    replace lx := lx.later u
    replace ly := ly.later u
    replace hsx := hsx.later u
    replace hsy := hsy.later u
    replace S := S.later u
    by_cases hlt : k < nl
    · obtain ⟨j, hj⟩ : ∃ j, nl - 1 - k = j := ⟨_, rfl⟩
      have hjl : j < nl := by omega
      have hjv : (nl : Int) - 1 - (k : Int) = (j : Int) := by omega
      have hjN : j < N.length := by rw [HNL.out]; exact hjl
      have hkN : k < N.length := by rw [HNL.out]; exact hlt
      obtain ⟨x, hx⟩ : ∃ x, N[j] = x := ⟨_, rfl⟩
      have hxn := HN.out.lt _ (List.getElem_mem hjN)
      rw [hx] at hxn
      have HSN := Lib.hid (tkN_succ (j := j) n N hkN (by rw [HNL.out]; exact hj))
      rw [hx] at HSN
      have HX := Lib.hid (show nth (natV N) j = (x : Nat) by rw [nth_natV hjN, hx])
      obtain ⟨rx, hrx⟩ : ∃ v, n - 1 - x = v := ⟨_, rfl⟩
      rw [hrx] at HSN
      have hrxi : (n : Int) - 1 - (x : Int) = (rx : Int) := by omega
      have hlenn := tkN_len n N k
      rw [HNL.out] at hlenn
      clear hx hrx hj
      rw [hjv]
      obtain ⟨ba, oa, ka, e, hka, hba, hga⟩ := (S.at (v := .slice a5 nl c5) (xs := (natV N)) (by simp)).at (k := j) (by rw [natV_len, HNL.out]; exact hjl)
      injection e with e1 e2 e3
      subst e1 e3
      have qa := hga j (by rw [natV_len, HNL.out]; exact hjl)
      clear hga e2
      rw [HX.out] at qa
      have p_0 := l1.cell (k := 0) rfl
      have p_1 := l1.cell (k := 1) rfl
      have p_2 := l1.cell (k := 2) rfl
      have p_l := l1.lt
      go_wp2
      refine Mix.region_mixL (Mix.kinds [9] [] [10, 11]) (by kernel_rfl) (by kernel_rfl) ?_
      repeat ((with_reducible refine Mix.atCons ?_); first | refine Mix.skipU (by rfl) rfl (by rfl) ?_ | (refine Mix.val rfl rfl (by rfl) (fun K hK => ?_); go_big_quiet_op; refine hK _ ?_; clear hK K) | (refine Mix.skip (by rfl) ?_; go_frame))
      try simp only [hrxi]
      refine Mix.new rfl (by rfl) (fun b => .slice (some ⟨b, 0, none⟩) 1 1) (.cells #[.int .i64 rx] 3) (fun w => by simp [go_sem]) (fun E4 x4 hE4 hx4 => ?_)
      try go_frame
      repeat ((with_reducible refine Mix.atCons ?_); first | refine Mix.skipU (by rfl) rfl (by rfl) ?_ | (refine Mix.val rfl rfl (by rfl) (fun K hK => ?_); go_big_quiet_op; refine hK _ ?_; clear hK K) | (refine Mix.skip (by rfl) ?_; go_frame))
      refine Mix.lastR rfl (by rfl) (by decide) (fun x5 K5 hK5 => ?_)
      have hO5 := (hO.later x4).later x5
      have hs5 : Y6.w.heap.size ≤ x5.w.heap.size := Nat.le_trans u.size (Nat.le_trans x4.size x5.size)
      have hc0 : x5.w.cell? ⟨E4, 0, none⟩ = some (.int .i64 rx) := by
        have h1 := (x5.le.block E4 (Array.getElem?_eq_some_iff.1 hx4).1).trans hx4
        simp [World.cell?, h1]
      obtain ⟨v6, w6, hr6, hA6, hg6⟩ := run_app_intM x5.w Y6.w.heap.size _ _ E4 1 rx hO5 hc0 (Nat.le_refl _) hs5 (by omega) 23
      obtain ⟨a6, n6, c6, rfl⟩ := hA6.form'
      refine Lib.wp_append_run_sl _ _ _ 23 rfl _ _ rfl rfl hr6 ?_
      refine hK5 _ _ ?_
      clear hK5 K5
      have hB6 : Below Y6.w.heap.size Y6.w w6 := ((u.step x4).step x5).le.trans (hO5.below hg6 hs5)
      obtain ⟨Z6, hZ6⟩ : ∃ Z : Later Y6.w, Z.w = w6 := ⟨⟨w6, hB6⟩, rfl⟩
      rw [← hZ6] at hA6 ⊢
      clear hg6 hB6 hZ6 hr6 hO5 hs5 hc0 hx4
      try go_frame
      refine Mix.last rfl (by rfl) (fun x7 K7 hK7 => ?_)
      go_wp2_with fail
      refine Mix.done (fun x8 => ?_)
      clear p_0 p_1 p_2 p_l
      go_wp2
      go_roundw
      case rel => exact ⟨k + 1, (Z6.step x7).step x8, rfl, by omega, by first | (congr 1; omega) | (congr 1; push_cast; omega), by rw [HSN.out]; exact (hA6.later x7).later x8⟩
      case measure => simp [intOf] <;> omega
    obtain rfl : nl = k := by omega
    have hjv : (nl : Int) - 1 - (nl : Int) = -1 := by omega
    rw [hjv]
    have hoi := hO.ints (by have h := tkN_len n N nl; rw [HNL.out] at h; omega)
    rw [show tkN n N nl = natV (backN n N) by rw [← HNL.out]; exact tkN_all n N] at hoi
    clear hO hk
    replace S := S.cons hoi
    clear hoi
    have q0_0 := l1.cell (k := 0) rfl
    have q0_1 := l1.cell (k := 1) rfl
    have q0_2 := l1.cell (k := 2) rfl
    have q0_l := l1.lt
    go_wp2_with fail
    clear q0_0 q0_1 q0_2 q0_l
    refine (Count_any n _ _ _ ms cs (natV N) _ hs (S.at (v := .slice a5 nl c5) (xs := (natV N)) (by simp))).mono ?_
    rintro e w' ⟨rfl, y, rfl⟩
    rw [H_ea.out, H_na.out]
    replace hs := hs.later y
    replace l1 := l1.later y
    replace lx := lx.later y
    replace ly := ly.later y
    replace hsx := hsx.later y
    replace hsy := hsy.later y
    replace S := S.later y
    obtain ⟨Y7, hZ⟩ : ∃ Z : Later Y6.w, Z.w = y.w := ⟨u.step (y), rfl⟩
    rw [← hZ] at S hs l1 lx ly hsx hsy ⊢
    clear hZ
    clear y
    have q0_0 := lx.cell (k := 0) rfl
    have q0_1 := lx.cell (k := 1) rfl
    have q0_2 := lx.cell (k := 2) rfl
    have q0_l := lx.lt
    go_wp2_with fail
    clear q0_0 q0_1 q0_2 q0_l
    refine (Count_any n _ _ _ px cx (natV N) _ hsx (S.at (v := .slice a5 nl c5) (xs := (natV N)) (by simp))).mono ?_
    rintro e w' ⟨rfl, y, rfl⟩
    rw [H_eb.out, H_nb.out]
    replace hs := hs.later y
    replace l1 := l1.later y
    replace lx := lx.later y
    replace ly := ly.later y
    replace hsx := hsx.later y
    replace hsy := hsy.later y
    replace S := S.later y
    obtain ⟨Y8, hZ⟩ : ∃ Z : Later Y6.w, Z.w = y.w := ⟨Y7.step (y), rfl⟩
    rw [← hZ] at S hs l1 lx ly hsx hsy ⊢
    clear hZ
    clear y
    have q0_0 := ly.cell (k := 0) rfl
    have q0_1 := ly.cell (k := 1) rfl
    have q0_2 := ly.cell (k := 2) rfl
    have q0_l := ly.lt
    go_wp2_with fail
    clear q0_0 q0_1 q0_2 q0_l
    refine (Count_any n _ _ _ py cy (natV (backN n N)) _ hsy (S.at (v := .slice ao no co) (xs := (natV (backN n N))) (by simp))).mono ?_
    rintro e w' ⟨rfl, y, rfl⟩
    rw [H_ec.out, H_nc.out]
    replace hs := hs.later y
    replace l1 := l1.later y
    replace lx := lx.later y
    replace ly := ly.later y
    replace hsx := hsx.later y
    replace hsy := hsy.later y
    replace S := S.later y
    obtain ⟨Y9, hZ⟩ : ∃ Z : Later Y6.w, Z.w = y.w := ⟨Y8.step (y), rfl⟩
    rw [← hZ] at S hs l1 lx ly hsx hsy ⊢
    clear hZ
    clear y
    have q0_0 := l1.cell (k := 0) rfl
    have q0_1 := l1.cell (k := 1) rfl
    have q0_2 := l1.cell (k := 2) rfl
    have q0_l := l1.lt
    go_wp2_with fail
    clear q0_0 q0_1 q0_2 q0_l
    refine (Kind_any n _ _ _ ms cs (natV N) _ hs (S.at (v := .slice a5 nl c5) (xs := (natV N)) (by simp)) p).mono ?_
    rintro e w' ⟨rfl, y, rfl⟩
    rw [H_ka.out, H_fa.out]
    replace hs := hs.later y
    replace l1 := l1.later y
    replace lx := lx.later y
    replace ly := ly.later y
    replace hsx := hsx.later y
    replace hsy := hsy.later y
    replace S := S.later y
    obtain ⟨Y10, hZ⟩ : ∃ Z : Later Y6.w, Z.w = y.w := ⟨Y9.step (y), rfl⟩
    rw [← hZ] at S hs l1 lx ly hsx hsy ⊢
    clear hZ
    clear y
    have q0_0 := lx.cell (k := 0) rfl
    have q0_1 := lx.cell (k := 1) rfl
    have q0_2 := lx.cell (k := 2) rfl
    have q0_l := lx.lt
    go_wp2
    refine Mix.region_mixL (Mix.kinds [] [4, 5] []) (by kernel_rfl) (by kernel_rfl) ?_
    repeat ((with_reducible refine Mix.atCons ?_); first | refine Mix.skipU (by rfl) rfl (by rfl) ?_ | (refine Mix.val rfl rfl (by rfl) (fun K hK => ?_); go_big_quiet_op; refine hK _ ?_; clear hK K) | (refine Mix.skip (by rfl) ?_; go_frame))
    refine Mix.loud rfl (by rfl) (fun x1 K hK => ?_)
    go_wp2_with fail
    refine (turned_calls p kk (by omega) (by omega) _).mono ?_
    rintro e w' ⟨rfl, hw⟩
    rw [hw]
    refine hK _ (Later.self _) ?_
    clear hK K hw w'
    simp only [Later.self_w]
    try go_frame
    repeat ((with_reducible refine Mix.atCons ?_); first | refine Mix.skipU (by rfl) rfl (by rfl) ?_ | (refine Mix.val rfl rfl (by rfl) (fun K hK => ?_); go_big_quiet_op; refine hK _ ?_; clear hK K) | (refine Mix.skip (by rfl) ?_; go_frame))
    refine Mix.loud rfl (by rfl) (fun x2 K hK => ?_)
    go_wp2_with fail
    refine (Kind_any n _ _ _ px cx (natV N) _ ((hsx.later x1).later x2) (((S.at (v := .slice a5 nl c5) (xs := (natV N)) (by simp)).later x1).later x2) (turnP kk p : Nat)).mono ?_
    rintro e w' ⟨rfl, y2, rfl⟩
    rw [H_kb.out, H_fb.out]
    refine hK _ y2 ?_
    clear hK K
    try go_frame
    repeat ((with_reducible refine Mix.atCons ?_); first | refine Mix.skipU (by rfl) rfl (by rfl) ?_ | (refine Mix.val rfl rfl (by rfl) (fun K hK => ?_); go_big_quiet_op; refine hK _ ?_; clear hK K) | (refine Mix.skip (by rfl) ?_; go_frame))
    refine Mix.done (fun x3 => ?_)
    clear q0_0 q0_1 q0_2 q0_l
    replace hs := ((((hs.later x1).later x2).later y2).later x3)
    replace l1 := ((((l1.later x1).later x2).later y2).later x3)
    replace lx := ((((lx.later x1).later x2).later y2).later x3)
    replace ly := ((((ly.later x1).later x2).later y2).later x3)
    replace hsx := ((((hsx.later x1).later x2).later y2).later x3)
    replace hsy := ((((hsy.later x1).later x2).later y2).later x3)
    replace S := ((((S.later x1).later x2).later y2).later x3)
    obtain ⟨Y11, hZ⟩ : ∃ Z : Later Y6.w, Z.w = x3.w := ⟨Y10.step (x1.step (x2.step (y2.step (x3)))), rfl⟩
    rw [← hZ] at S hs l1 lx ly hsx hsy ⊢
    clear hZ
    have q0_0 := ly.cell (k := 0) rfl
    have q0_1 := ly.cell (k := 1) rfl
    have q0_2 := ly.cell (k := 2) rfl
    have q0_l := ly.lt
    have q1_0 := l1.cell (k := 0) rfl
    have q1_1 := l1.cell (k := 1) rfl
    have q1_2 := l1.cell (k := 2) rfl
    have q1_l := l1.lt
    go_wp2
    refine Mix.region_mixL (Mix.kinds [] [5, 6] []) (by kernel_rfl) (by kernel_rfl) ?_
    repeat ((with_reducible refine Mix.atCons ?_); first | refine Mix.skipU (by rfl) rfl (by rfl) ?_ | (refine Mix.val rfl rfl (by rfl) (fun K hK => ?_); go_big_quiet_op; refine hK _ ?_; clear hK K) | (refine Mix.skip (by rfl) ?_; go_frame))
    refine Mix.loud rfl (by rfl) (fun x1 K hK => ?_)
    go_wp2_with fail
    refine (back_calls p n h10 hpn _).mono ?_
    rintro e w' ⟨rfl, hw⟩
    rw [hw]
    refine hK _ (Later.self _) ?_
    clear hK K hw w'
    simp only [Later.self_w]
    try go_frame
    repeat ((with_reducible refine Mix.atCons ?_); first | refine Mix.skipU (by rfl) rfl (by rfl) ?_ | (refine Mix.val rfl rfl (by rfl) (fun K hK => ?_); go_big_quiet_op; refine hK _ ?_; clear hK K) | (refine Mix.skip (by rfl) ?_; go_frame))
    refine Mix.loud rfl (by rfl) (fun x2 K hK => ?_)
    go_wp2_with fail
    refine (Kind_any n _ _ _ py cy (natV (backN n N)) _ ((hsy.later x1).later x2) (((S.at (v := .slice ao no co) (xs := (natV (backN n N))) (by simp)).later x1).later x2) (backP n p : Nat)).mono ?_
    rintro e w' ⟨rfl, y2, rfl⟩
    rw [H_kc.out, H_fc.out]
    refine hK _ y2 ?_
    clear hK K
    try go_frame
    repeat ((with_reducible refine Mix.atCons ?_); first | refine Mix.skipU (by rfl) rfl (by rfl) ?_ | (refine Mix.val rfl rfl (by rfl) (fun K hK => ?_); go_big_quiet_op; refine hK _ ?_; clear hK K) | (refine Mix.skip (by rfl) ?_; go_frame))
    refine Mix.done (fun x3 => ?_)
    clear q0_0 q0_1 q0_2 q0_l
    clear q1_0 q1_1 q1_2 q1_l
    replace hs := ((((hs.later x1).later x2).later y2).later x3)
    replace l1 := ((((l1.later x1).later x2).later y2).later x3)
    replace lx := ((((lx.later x1).later x2).later y2).later x3)
    replace ly := ((((ly.later x1).later x2).later y2).later x3)
    replace hsx := ((((hsx.later x1).later x2).later y2).later x3)
    replace hsy := ((((hsy.later x1).later x2).later y2).later x3)
    replace S := ((((S.later x1).later x2).later y2).later x3)
    obtain ⟨Y12, hZ⟩ : ∃ Z : Later Y6.w, Z.w = x3.w := ⟨Y11.step (x1.step (x2.step (y2.step (x3)))), rfl⟩
    rw [← hZ] at S hs l1 lx ly hsx hsy ⊢
    clear hZ
    have q0_0 := l1.cell (k := 0) rfl
    have q0_1 := l1.cell (k := 1) rfl
    have q0_2 := l1.cell (k := 2) rfl
    have q0_l := l1.lt
    go_wp2_with fail
    clear q0_0 q0_1 q0_2 q0_l
    refine (Most_any n _ _ ms cs _ hs).mono ?_
    rintro e w' ⟨rfl, y, rfl⟩
    rw [H_ma.out, H_va.out]
    replace hs := hs.later y
    replace l1 := l1.later y
    replace lx := lx.later y
    replace ly := ly.later y
    replace hsx := hsx.later y
    replace hsy := hsy.later y
    replace S := S.later y
    obtain ⟨Y13, hZ⟩ : ∃ Z : Later Y6.w, Z.w = y.w := ⟨Y12.step (y), rfl⟩
    rw [← hZ] at S hs l1 lx ly hsx hsy ⊢
    clear hZ
    clear y
    have q0_0 := lx.cell (k := 0) rfl
    have q0_1 := lx.cell (k := 1) rfl
    have q0_2 := lx.cell (k := 2) rfl
    have q0_l := lx.lt
    go_wp2_with fail
    clear q0_0 q0_1 q0_2 q0_l
    refine (Most_any n _ _ px cx _ hsx).mono ?_
    rintro e w' ⟨rfl, y, rfl⟩
    rw [H_mb.out, H_vb.out]
    replace hs := hs.later y
    replace l1 := l1.later y
    replace lx := lx.later y
    replace ly := ly.later y
    replace hsx := hsx.later y
    replace hsy := hsy.later y
    replace S := S.later y
    obtain ⟨Y14, hZ⟩ : ∃ Z : Later Y6.w, Z.w = y.w := ⟨Y13.step (y), rfl⟩
    rw [← hZ] at S hs l1 lx ly hsx hsy ⊢
    clear hZ
    clear y
    have q0_0 := ly.cell (k := 0) rfl
    have q0_1 := ly.cell (k := 1) rfl
    have q0_2 := ly.cell (k := 2) rfl
    have q0_l := ly.lt
    go_wp2_with fail
    clear q0_0 q0_1 q0_2 q0_l
    refine (Most_any n _ _ py cy _ hsy).mono ?_
    rintro e w' ⟨rfl, y, rfl⟩
    rw [H_mc.out, H_vc.out]
    replace hs := hs.later y
    replace l1 := l1.later y
    replace lx := lx.later y
    replace ly := ly.later y
    replace hsx := hsx.later y
    replace hsy := hsy.later y
    replace S := S.later y
    obtain ⟨Y15, hZ⟩ : ∃ Z : Later Y6.w, Z.w = y.w := ⟨Y14.step (y), rfl⟩
    rw [← hZ] at S hs l1 lx ly hsx hsy ⊢
    clear hZ
    clear y
    go_wp2_with fail
    refine (Works_calls _).mono ?_
    rintro e w' ⟨rfl, y, rfl⟩
    go_wp2
    go_ret
    exact ⟨rfl, Y3.step (Y6.step (Y15.step (y))), rfl⟩
end Go.Proofs.Ytdhdpbnlhnodjaa
