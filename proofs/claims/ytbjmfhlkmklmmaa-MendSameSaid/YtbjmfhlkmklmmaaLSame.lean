import Derived.Test.YtbjmfhlkmklmmaaWkP
import Derived.Test.YtbjmfhlkmklmmaaThB
import Derived.Test.YtbjmfhlkmklmmaaOwn2
/-  MendSame. -/
namespace Go.Proofs.Ytbjmfhlkmklmmaa
open Go.RowKit

theorem IntsN.madeN {lo : Nat} (w : World) (n : Nat) (hlo : lo ≤ w.heap.size) (hn : n ≤ 1000000) : IntsN lo (w.alloc (.cells (madeCells #[.int .i64 0] n) 2)) (.slice (some ⟨w.heap.size, 0, none⟩) n n) (List.replicate n 0) := by
  have h1 := World.ownsRow_lit (base := lo) (e := 2) (size := 1) w (madeCells #[.int .i64 0] n) n hlo (by simp only [maxLen]; omega) (by simp [madeCells])
  rw [toList_madeCells_one] at h1
  show World.ownsRow _ _ _ _ _ _ _
  simpa using h1
/-- the places that are not flat -/
def highL (x : List Int) (k : Nat) : List Int := ((List.range k).filter fun j => decide (3 < ofL x j)).map fun (j : Nat) => (j : Int)
theorem highL_snoc (x : List Int) (k : Nat) : highL x (k + 1) = if 3 < ofL x k then highL x k ++ [(k : Int)] else highL x k := by
  rw [highL, List.range_succ, List.filter_append, List.map_append]
  by_cases h : 3 < ofL x k
  · rw [if_pos h]; simp [highL, h]
  · rw [if_neg h]; simp [highL, h]
theorem highL_len (x : List Int) (k : Nat) : (highL x k).length ≤ k := by
  rw [highL, List.length_map]
  exact Nat.le_trans (List.length_filter_le _ _) (by rw [List.length_range]; exact Nat.le_refl _)
theorem highL_nil {x : List Int} {k : Nat} (h : highL x k = []) : ∀ j, j < k → ofL x j ≤ 3 := fun j hj => by
  rw [highL, List.map_eq_nil_iff, List.filter_eq_nil_iff] at h
  have := h j (List.mem_range.2 hj)
  simpa using this
theorem highL_at {x : List Int} {k j : Nat} (hj : j < (highL x k).length) : ∃ i, i < k ∧ 4 ≤ ofL x i ∧ nth (highL x k) j = (i : Int) := by
  have hm := List.getElem_mem hj
  rw [nth_eq hj]
  obtain ⟨i, hi, e⟩ := List.mem_map.1 (show (highL x k)[j] ∈ (((List.range k).filter fun j => decide (3 < ofL x j)).map fun (j : Nat) => (j : Int)) from hm)
  obtain ⟨h1, h2⟩ := List.mem_filter.1 hi
  have h3 := List.mem_range.1 h1
  have h4 : 3 < ofL x i := of_decide_eq_true h2
  exact ⟨i, h3, by omega, e.symm⟩
theorem Ham.mk9 {w h : Nat} {d u x : List Int} (hr : RunL w h d u x) (hf : ∀ j, j < w * h → ofL x j ≤ 3) : Ham w h d x u := ⟨hr, hf⟩
theorem by_idx {b s k : Nat} (h1 : (0 : Int) ≤ b ∧ (b : Int) ≤ 255) (h2 : s ≤ k) (h3 : k < 20000) : IntKind.i64.wrap (b : Int) = b ∧ wrap64 (s : Int) = s ∧ IntKind.i64.wrap ((b : Int) + (s : Int)) = b + s :=
  ⟨IntWalk.i64_in _ (by omega), IntWalk.wrap64_in _ (by omega), IntWalk.i64_in _ (by omega)⟩
theorem by_mod {b s k nl : Nat} (h1 : (0 : Int) ≤ b ∧ (b : Int) ≤ 255) (h2 : s ≤ k) (h3 : k < 20000) : (wrap64 ((b : Int) + (s : Int))).tmod (nl : Int) = (((b + s) % nl : Nat) : Int) := by
  rw [IntWalk.wrap64_in _ (by omega), Int.tmod_eq_emod_of_nonneg (by omega), Int.natCast_emod, Int.natCast_add]
set_option maxRecDepth 100000 in
set_option maxHeartbeats 8000000 in
theorem LSame_calls (w h : Int) (dv bv : Value) (d ys : List Int) (W : World) (hd : Ints W dv d) (hys : Byts W bv ys) :
    Calls Try.prog 7 #[.agg #[.int .i64 w, .int .i64 h, dv], bv] W (Gives (.bool true) W) := by
  have S : Ins W [] := Ins.nil _
  obtain ⟨a1, n1, c1, rfl⟩ : ∃ a n c, dv = .slice a n c := by obtain ⟨a, c, e⟩ := hd.form; exact ⟨a, _, c, e⟩
  have S := S.cons hd
  obtain ⟨a8, n8, c8, rfl⟩ : ∃ a n c, bv = .slice a n c := by obtain ⟨a, c, e⟩ := hys.form; exact ⟨a, _, c, e⟩
  have HN8 := Lib.hid (show n8 = ys.length by obtain ⟨a, c, e⟩ := hys.form; cases e; rfl)
  by_cases hv : vplate w h d = 0
  rotate_left
  · have hvb : (vplate w h d == 0) = false := by simpa using hv
    clear hv
    go_enter Try.func7, Try.ntmps7
    go_wp2_with fail
    obtain ⟨B1, hb⟩ : ∃ b, b = W.heap.size := ⟨_, rfl⟩
    have l1 : Lin (W.alloc (.cells #[.int .i64 w, .int .i64 h, .slice a1 n1 c1] 24)) B1 24 [.int .i64 w, .int .i64 h, .slice a1 n1 c1] := by rw [hb]; exact Lin.new _ _ [.int .i64 w, .int .i64 h, .slice a1 n1 c1]
    replace S := S.later (Later.new _ (.cells #[.int .i64 w, .int .i64 h, .slice a1 n1 c1] 24))
    rw [Later.new_w] at S
    replace hys := hys.later (Later.new _ (.cells #[.int .i64 w, .int .i64 h, .slice a1 n1 c1] 24))
    rw [Later.new_w] at hys
    have hsz : (W.alloc (.cells #[.int .i64 w, .int .i64 h, .slice a1 n1 c1] 24)).heap.size = B1 + 1 := by rw [hb]; simp
    obtain ⟨Y2, hZ⟩ : ∃ Z : Later W, Z.w = W.alloc (.cells #[.int .i64 w, .int .i64 h, .slice a1 n1 c1] 24) := ⟨Later.new _ _, rfl⟩
    rw [← hZ] at S hsz hys l1 ⊢
    clear hZ
    rw [← hb]
    clear hb
    clear hsz
    refine (fine_calls w h _ d _ (S.at (v := .slice a1 n1 c1) (xs := d) (by simp))).mono ?_
    rintro e w' ⟨rfl, y, rfl⟩
    rw [hvb]
    replace hys := hys.later y
    replace l1 := l1.later y
    replace S := S.later y
    obtain ⟨Y3, hZ⟩ : ∃ Z : Later W, Z.w = y.w := ⟨Y2.step (y), rfl⟩
    rw [← hZ] at S hys l1 ⊢
    clear hZ
    clear y
    have q0_0 := l1.cell (k := 0) rfl
    have q0_1 := l1.cell (k := 1) rfl
    have q0_2 := l1.cell (k := 2) rfl
    have q0_l := l1.lt
    go_wp2_with fail
    clear q0_0 q0_1 q0_2 q0_l
    refine (Works_calls _).mono ?_
    rintro e w' ⟨rfl, y, rfl⟩
    go_wp2
    go_ret
    exact ⟨rfl, Y3.step y, rfl⟩
  · obtain ⟨wn, hn, rfl, rfl, _⟩ := vplate_zero hv
    obtain ⟨hs, hl, hlo, hlow⟩ := valid_low hv
    obtain ⟨X, U, hm⟩ := ham_ex hs hl hlow
    have h36 : wn * hn ≤ 36 := Nat.mul_le_mul hs.2.1 hs.2.2.2
    have h1w : 1 ≤ wn * hn := Nat.mul_le_mul hs.1 hs.2.2.1
    have HV := Lib.hid hv
    have HL := Lib.hid hl
    have HLO := Lib.hid hlo
    have HLW := Lib.hid hlow
    have HM := Lib.hid hm
    have hvb : (vplate wn hn d == 0) = true := by rw [hv]; rfl
    have HN1 := Lib.hid (show n1 = d.length by obtain ⟨a, c, e⟩ := hd.form; cases e; rfl)
    clear hv hl hlo hlow hm
    go_enter Try.func7, Try.ntmps7
    go_wp2_with fail
    obtain ⟨B1, hb⟩ : ∃ b, b = W.heap.size := ⟨_, rfl⟩
    have l1 : Lin (W.alloc (.cells #[.int .i64 wn, .int .i64 hn, .slice a1 n1 c1] 24)) B1 24 [.int .i64 wn, .int .i64 hn, .slice a1 n1 c1] := by rw [hb]; exact Lin.new _ _ [.int .i64 wn, .int .i64 hn, .slice a1 n1 c1]
    replace S := S.later (Later.new _ (.cells #[.int .i64 wn, .int .i64 hn, .slice a1 n1 c1] 24))
    rw [Later.new_w] at S
    replace hys := hys.later (Later.new _ (.cells #[.int .i64 wn, .int .i64 hn, .slice a1 n1 c1] 24))
    rw [Later.new_w] at hys
    have hsz : (W.alloc (.cells #[.int .i64 wn, .int .i64 hn, .slice a1 n1 c1] 24)).heap.size = B1 + 1 := by rw [hb]; simp
    obtain ⟨Y2, hZ⟩ : ∃ Z : Later W, Z.w = W.alloc (.cells #[.int .i64 wn, .int .i64 hn, .slice a1 n1 c1] 24) := ⟨Later.new _ _, rfl⟩
    rw [← hZ] at S hsz hys l1 ⊢
    clear hZ
    rw [← hb]
    clear hb
    clear hsz
    refine (fine_calls wn hn _ d _ (S.at (v := .slice a1 n1 c1) (xs := d) (by simp))).mono ?_
    rintro e w' ⟨rfl, y, rfl⟩
    rw [hvb]
    clear hvb
    replace hys := hys.later y
    replace l1 := l1.later y
    replace S := S.later y
    obtain ⟨Y3, hZ⟩ : ∃ Z : Later W, Z.w = y.w := ⟨Y2.step (y), rfl⟩
    rw [← hZ] at S hys l1 ⊢
    clear hZ
    clear y
    by_cases h200 : 200 < n8
    · have q0_0 := l1.cell (k := 0) rfl
      have q0_1 := l1.cell (k := 1) rfl
      have q0_2 := l1.cell (k := 2) rfl
      have q0_l := l1.lt
      go_wp2_with fail
      clear q0_0 q0_1 q0_2 q0_l
      refine (Works_calls _).mono ?_
      rintro e w' ⟨rfl, y, rfl⟩
      go_wp2
      go_ret
      exact ⟨rfl, Y3.step y, rfl⟩
    · have q0_0 := l1.cell (k := 0) rfl
      have q0_1 := l1.cell (k := 1) rfl
      have q0_2 := l1.cell (k := 2) rfl
      have q0_l := l1.lt
      go_wp2_with fail
      clear q0_0 q0_1 q0_2 q0_l
      have HUL := Lib.hid HM.out.lenU
      refine (flat_calls wn hn _ d X U _ (S.at (v := .slice a1 n1 c1) (xs := d) (by simp)) HV.out HM.out).mono ?_
      rintro e w' ⟨v, u, y, rfl, rfl, hR, hU⟩
      replace hys := hys.later y
      replace l1 := l1.later y
      replace S := S.later y
      obtain ⟨a4, n4, c4, rfl⟩ : ∃ a n c, v = .slice a n c := by obtain ⟨a, c, e⟩ := hR.form; exact ⟨a, _, c, e⟩
      replace S := S.cons hR
      obtain ⟨a5, n5, c5, rfl⟩ : ∃ a n c, u = .slice a n c := by obtain ⟨a, c, e⟩ := hU.form; exact ⟨a, _, c, e⟩
      replace S := S.cons hU
      obtain ⟨Y6, hZ⟩ : ∃ Z : Later W, Z.w = y.w := ⟨Y3.step (y), rfl⟩
      rw [← hZ] at S hys l1 ⊢
      clear hZ
      clear y hR hU
      have hE : IntsN W.heap.size ((Y6.w.alloc (.cells #[.int .i64 wn, .int .i64 hn, .slice a4 n4 c4] 24)).alloc (.cells #[] 2)) (.slice (some ⟨Y6.w.heap.size + 1, 0, none⟩) 0 0) [] := IntsN.empty _ (by simp) (by have := Y6.size; simp; omega)
      obtain ⟨av, nv, cv, q9, hrun, hN⟩ := app_emptyN hE (((S.at (v := .slice a1 n1 c1) (xs := d) (by simp)).later (Later.new _ (.cells #[.int .i64 wn, .int .i64 hn, .slice a4 n4 c4] 24))).later (Later.new _ (.cells #[] 2))) (by have := Y6.size; simp; omega) (by rw [HL.out]; omega) 22
      have HR := Lib.hid hrun
      clear hrun hE
      have hn5 : nv = wn * hn := by obtain ⟨a9, c9, e9⟩ := hN.form; cases e9; exact HL.out
      have hmk : ∀ (w' : World), (Instr.makeSlice 22 (.int .i64 (nv : Int)) (.int .i64 (nv : Int))).run Try.prog w' = .ok (.slice (some ⟨w'.heap.size, 0, none⟩) nv nv) (w'.alloc (.cells (madeCells #[.int .i64 0] nv) 2)) := fun w' => run_make_row' _ _ _ 8 Try.underlying22 (by kernel_rfl) rfl _ _ _ (by omega) (by omega) w'
      have HN5 := Lib.hid hn5
      clear hn5
      have q0_0 := l1.cell (k := 0) rfl
      have q0_1 := l1.cell (k := 1) rfl
      have q0_2 := l1.cell (k := 2) rfl
      have q0_l := l1.lt
      go_wp2_with ((with_reducible show wpList _ _ _ (⟨some 34, _, _, _, _, _⟩ :: _) _ _); refine Lib.wpList_append_run_sl _ rfl _ _ 22 rfl _ _ rfl rfl HR.out ?_)
      clear q0_0 q0_1 q0_2 q0_l
      have l5 : Lin (Y6.w.alloc (.cells #[.int .i64 wn, .int .i64 hn, .slice a4 n4 c4] 24)) Y6.w.heap.size 24 [.int .i64 wn, .int .i64 hn, .slice a4 n4 c4] := Lin.new _ _ _
      obtain ⟨B5, hB5⟩ : ∃ B, B = Y6.w.heap.size := ⟨_, rfl⟩
      rw [← hB5] at l5 ⊢
      replace l5 := (l5.later (Later.new _ (.cells #[] 2))).later q9
      replace hys := ((hys.later (Later.new _ (.cells #[.int .i64 wn, .int .i64 hn, .slice a4 n4 c4] 24))).later (Later.new _ (.cells #[] 2))).later q9
      replace l1 := ((l1.later (Later.new _ (.cells #[.int .i64 wn, .int .i64 hn, .slice a4 n4 c4] 24))).later (Later.new _ (.cells #[] 2))).later q9
      replace S := ((S.later (Later.new _ (.cells #[.int .i64 wn, .int .i64 hn, .slice a4 n4 c4] 24))).later (Later.new _ (.cells #[] 2))).later q9
      obtain ⟨Y7, hZ⟩ : ∃ Z : Later W, Z.w = q9.w := ⟨Y6.step ((Later.new _ (.cells #[.int .i64 wn, .int .i64 hn, .slice a4 n4 c4] 24)).step ((Later.new _ (.cells #[] 2)).step q9)), rfl⟩
      rw [← hZ] at S hys l1 l5 hN ⊢
      clear hZ
      clear HR hmk hB5
      have hX0 : Ints Y7.w (.slice av nv cv) d := hN.ints (by rw [HL.out]; omega)
      clear hN
      obtain ⟨G, hG⟩ : ∃ G, G = Y7.w.heap.size := ⟨_, rfl⟩
      have hU0 := IntsN.madeN (lo := Y7.w.heap.size) Y7.w nv (Nat.le_refl _) (by have := HN5.out; omega)
      rw [← hG]
      rw [show (Value.slice (some ⟨Y7.w.heap.size, 0, none⟩) nv nv) = .slice (some ⟨G, 0, none⟩) nv nv from by rw [hG]] at hU0
      have HGY := Lib.hid (show Y7.w.heap.size ≤ G from Nat.le_of_eq hG.symm)
      clear hG
      obtain ⟨V0, hV0⟩ : ∃ V : Later Y7.w, V.w = Y7.w.alloc (.cells (madeCells #[.int .i64 0] nv) 2) := ⟨Later.new _ _, rfl⟩
      replace hX0 := hX0.later V0
      rw [← hV0] at hU0 ⊢
      clear hV0
      go_loopw [8, 10] (fun l c wr => ∃ (k : Nat) (x u : List Int) (V : Later Y7.w) (ax : Option Addr) (nx cx : Nat), wr = V.w ∧ c = .int .i64 k ∧ l = .slice ax nx cx ∧ Ints V.w (.slice ax nx cx) x ∧ IntsN Y7.w.heap.size V.w (.slice (some ⟨G, 0, none⟩) nv nv) u ∧ Hid (RunL wn hn d u x ∧ Sand.sum (wn * hn) (ofL u) = k)) (fun _ c _ => 20000 - (intOf c).toNat)
      case atStart => exact ⟨0, d, _, V0, _, _, _, rfl, rfl, rfl, hX0, hU0, by rw [HN5.out]; exact ⟨RunL.start HL.out, sum_rep _ _⟩⟩
      case round =>
        obtain ⟨k, x, u, V, ax, nx, cx, rfl, rfl, rfl, hx, hu, hI⟩ := hrel
        have hk2 : k < 20000 := by have := low_sum hs hI.out.1 HLW.out; have := hI.out.2; omega
        have HXL := Lib.hid (show x.length = wn * hn from hI.out.1.2.2.1)
        have HUX := Lib.hid (show u.length = wn * hn from hI.out.1.2.1)
        have hnx : nx = wn * hn := by obtain ⟨a9, c9, e9⟩ := hx.form; cases e9; exact HXL.out
        have HNX := Lib.hid hnx
        clear hX0 hU0 V0 hnx
        go_wp2
        rw [show decide ((k : Int) < 20000) = true from decide_eq_true (by omega)]
        go_loopw [11, 12] (fun o c wr => ∃ (j : Nat) (V2 : Later V.w) (vl : Value), wr = V2.w ∧ j ≤ wn * hn ∧ c = .int .i64 j ∧ vl = o ∧ IntsM V.w.heap.size V2.w vl (highL x j)) (fun _ c _ => wn * hn - (intOf c).toNat)
        case atStart => exact ⟨0, Later.self _, _, rfl, Nat.zero_le _, rfl, rfl, IntsM.nil _ _⟩
        case round =>
          obtain ⟨j, V2, vl, rfl, hj, rfl, rfl, hM⟩ := hrel
          have hnx := HNX.out
          by_cases hlt : j < wn * hn
          · obtain ⟨bx, ox, kx, e, hkx, hbx, hgx⟩ := hx.at (k := j) (by rw [HXL.out]; exact hlt)
            injection e with e1 e2 e3
            subst e1
            have gx := (V2.cell hbx).trans (hgx j (by rw [HXL.out]; exact hlt))
            have lx := Nat.lt_of_lt_of_le hbx V2.size
            rw [nth_ofL] at gx
            have hjx : j < nx := by omega
            clear e2 e3 hgx hkx hnx
            by_cases h3 : 3 < ofL x j
            · obtain ⟨v', q2, hr2, hM2, _⟩ := app_int_stepM V2.le hM (j : Int) (by have := highL_len x j; omega) 38
              have HR2 := Lib.hid hr2
              have HM2 : Hid (IntsM V.w.heap.size q2.w v' (highL x (j + 1))) := by rw [highL_snoc, if_pos h3]; exact hM2
              clear hr2 hM2 hM
              go_wp2_with ((with_reducible show wpList _ _ _ (⟨some 56, _, _, _, _, _⟩ :: _) _ _); refine Lib.wpList_append_run_sl _ rfl _ _ 38 rfl _ _ rfl rfl HR2.out ?_)
              go_roundw
              case rel => exact ⟨j + 1, q2, v', rfl, by omega, by go_num, rfl, HM2.out⟩
              case measure => simp [intOf]; omega
            · have HM2 : Hid (IntsM V.w.heap.size V2.w vl (highL x (j + 1))) := by rw [highL_snoc, if_neg h3]; exact hM
              go_wp2
              go_roundw
              case rel => exact ⟨j + 1, V2, vl, rfl, by omega, by go_num, rfl, HM2.out⟩
              case measure => simp [intOf]; omega
          · obtain rfl : j = wn * hn := by omega
            have hjn : ¬ wn * hn < nx := by omega
            obtain ⟨al, nl, cl, rfl⟩ := hM.form'
            have hnl : nl = (highL x (wn * hn)).length := by obtain ⟨a9, c9, e9⟩ := hM.form; cases e9; rfl
            clear hnx hlt hj
            replace hys := (hys.later V).later V2
            replace l1 := (l1.later V).later V2
            replace l5 := (l5.later V).later V2
            replace S := (S.later V).later V2
            replace hx := hx.later V2
            replace hu := hu.later V2
            obtain ⟨Y9, hZ⟩ : ∃ Z : Later Y7.w, Z.w = V2.w := ⟨V.step V2, rfl⟩
            rw [← hZ] at S hys l1 l5 hx hu hM ⊢
            clear hZ
            by_cases hnil : highL x (wn * hn) = []
            · have hn0 : nl = 0 := by rw [hnl, hnil]; rfl
              subst hn0
              obtain ⟨rfl, rfl⟩ := HM.out.unique (Ham.mk9 hI.out.1 (highL_nil hnil))
              clear hnl hnil
              have q0_0 := l1.cell (k := 0) rfl
              have q0_1 := l1.cell (k := 1) rfl
              have q0_2 := l1.cell (k := 2) rfl
              have q0_l := l1.lt
              have q1_0 := l5.cell (k := 0) rfl
              have q1_1 := l5.cell (k := 1) rfl
              have q1_2 := l5.cell (k := 2) rfl
              have q1_l := l5.lt
              go_wp2_with fail
              clear q0_0 q0_1 q0_2 q0_l
              clear q1_0 q1_1 q1_2 q1_l
              refine (Longs_calls _ _ X X _ hx (S.at (v := .slice a4 n4 c4) (xs := X) (by simp))).mono ?_
              rintro e w' ⟨rfl, y, rfl⟩
              rw [eqI_self]
              replace hys := hys.later y
              replace l1 := l1.later y
              replace l5 := l5.later y
              replace hx := hx.later y
              replace hu := hu.later y
              replace hM := hM.later y
              replace S := S.later y
              obtain ⟨Y10, hZ⟩ : ∃ Z : Later Y7.w, Z.w = y.w := ⟨Y9.step (y), rfl⟩
              rw [← hZ] at S hys l1 l5 hx hu hM ⊢
              clear hZ
              clear y
              go_wp2_with fail
              refine (Longs_calls _ _ U U _ (hu.ints (by rw [HUL.out]; omega)) (S.at (v := .slice a5 n5 c5) (xs := U) (by simp))).mono ?_
              rintro e w' ⟨rfl, y, rfl⟩
              rw [eqI_self]
              replace hys := hys.later y
              replace l1 := l1.later y
              replace l5 := l5.later y
              replace hx := hx.later y
              replace hu := hu.later y
              replace hM := hM.later y
              replace S := S.later y
              obtain ⟨Y11, hZ⟩ : ∃ Z : Later Y7.w, Z.w = y.w := ⟨Y10.step (y), rfl⟩
              rw [← hZ] at S hys l1 l5 hx hu hM ⊢
              clear hZ
              clear y
              go_wp2_with fail
              refine (Works_calls _).mono ?_
              rintro e w' ⟨rfl, y, rfl⟩
              go_wp2
              go_ret
              exact ⟨rfl, (Y7.step Y11).step y, rfl⟩
            · have hn0 : 0 < nl := by rw [hnl]; exact List.length_pos_iff.2 hnil
              have hnb : ((nl : Int) == 0) = false := by simp; omega
              have HNL := Lib.hid hnl
              clear hnl hnil
              have hml := hM.ints (by have := highL_len x (wn * hn); omega)
              by_cases h0 : 0 < n8
              rotate_left
              · have hj9 : 0 < nl := hn0
                obtain ⟨i, hi, hi4, hni⟩ := highL_at (x := x) (k := wn * hn) (j := 0) (by rw [← HNL.out]; exact hj9)
                obtain ⟨bl, ol, kl, e, hkl, hbl, hgl⟩ := (hM.ints (by have := highL_len x (wn * hn); omega)).at (k := 0) (by rw [← HNL.out]; exact hj9)
                injection e with e1 e2 e3
                subst e1
                have gl := hgl 0 (by rw [← HNL.out]; exact hj9)
                rw [hni] at gl
                try rw [Nat.add_zero] at gl
                clear e2 e3 hgl hkl
                have hinv : i < nv := by rw [HN5.out]; exact hi
                have HI := Lib.hid hi
                have HI4 := Lib.hid hi4
                have HNI := Lib.hid hni
                clear hni hi hi4
                have q0_0 := l1.cell (k := 0) rfl
                have q0_1 := l1.cell (k := 1) rfl
                have q0_2 := l1.cell (k := 2) rfl
                have q0_l := l1.lt
                go_wp2
                refine Mix.region_mixL (Mix.kinds [] [9] []) (by kernel_rfl) (by kernel_rfl) ?_
                repeat ((with_reducible refine Mix.atCons ?_); first | refine Mix.skipU (by rfl) rfl (by rfl) ?_ | (refine Mix.val rfl rfl (by rfl) (fun K hK => ?_); go_big_quiet_op; refine hK _ ?_; clear hK K))
                refine Mix.loud rfl (by rfl) (fun x1 K hK => ?_)
                go_wp2_with fail
                refine (Hit_calls wn hn i 1 _ x hs HI.out _ (hx.later x1) HXL.out (fun j hj => by have := low_x hs hI.out.1 HLW.out j (by rw [← HXL.out]; exact hj); omega) (by omega) (by omega)).mono ?_
                rintro e w' ⟨v, y1, rfl, rfl, hX2⟩
                obtain ⟨ax2, nx2, cx2, rfl⟩ := hX2.form'
                have hne2 : (Value.slice ax2 nx2 cx2).ownBlock ≠ some G := fun e => by
                  have h1 := (World.ownsRow.lt hX2 _ e).1
                  have h2 := (World.ownsRow.lt (hu.later x1) G rfl).2
                  omega
                refine hK _ y1 ?_
                clear hK K
                try go_frame
                repeat ((with_reducible refine Mix.atCons ?_); first | refine Mix.skipU (by rfl) rfl (by rfl) ?_ | (refine Mix.val rfl rfl (by rfl) (fun K hK => ?_); go_big_quiet_op; refine hK _ ?_; clear hK K))
                refine Mix.done (fun x2 => ?_)
                clear q0_0 q0_1 q0_2 q0_l
                replace hys := (((hys.later x1).later y1).later x2)
                replace l1 := (((l1.later x1).later y1).later x2)
                replace l5 := (((l5.later x1).later y1).later x2)
                replace hx := (((hx.later x1).later y1).later x2)
                replace hu := (((hu.later x1).later y1).later x2)
                replace hM := (((hM.later x1).later y1).later x2)
                replace S := (((S.later x1).later y1).later x2)
                replace hX2 := (hX2.later x2)
                obtain ⟨Y10, hZ⟩ : ∃ Z : Later Y7.w, Z.w = x2.w := ⟨Y9.step (x1.step (y1.step (x2))), rfl⟩
                rw [← hZ] at S hys l1 l5 hx hu hM hX2 ⊢
                clear hZ
                obtain ⟨bl', ol', kl', e, _, hbl', hgl⟩ := (hM.ints (by have := highL_len x (wn * hn); omega)).at (k := 0) (by rw [← HNL.out]; exact hj9)
                injection e with e1 e2 e3
                injection e1 with e1
                injection e1 with e1 e4 e5
                subst e1 e4
                have gl2 := hgl 0 (by rw [← HNL.out]; exact hj9)
                rw [HNI.out] at gl2
                try rw [Nat.add_zero] at gl2
                clear e2 e3 e5 hgl gl hbl
                obtain ⟨g9, e9, z1, z2, z3, z4, fG, gG, hst, hgr⟩ := hu.set (k := i) (by rw [HUX.out]; exact HI.out) (nth u i + 1)
                cases e9
                have hlu := low_u hs hI.out.1 HLW.out i HI.out
                have hup := hI.out.1.pos i HI.out
                have e3 : IntKind.i64.wrap (nth u i + 1) = nth u i + 1 := IntWalk.i64_in _ (by rw [nth_ofL]; omega)
                have HST := Lib.hid hst
                have HGR := Lib.hid hgr
                have HI2 : Hid (RunL wn hn d (addAt u i 1) (hitL wn hn x i 1) ∧ Sand.sum (wn * hn) (ofL (addAt u i 1)) = ((k + 1 : Nat) : Int)) := ⟨hI.out.1.blow hs HI.out (by omega) (by have := HI4.out; omega), by rw [sum_addAt HI.out HUX.out, hI.out.2]; omega⟩
                have Z2 := Lib.hid z2
                clear z1 z2 z4 hst hgr hlu hup
                go_wp2
                go_roundw
                case rel => exact ⟨k + 1, _, _, ⟨_, Y10.le.setCell (p := ⟨G, i, none⟩) Z2.out _⟩, _, _, _, rfl, by go_num, rfl, (hX2.kept HGR.out (.inr hne2)).ints (by rw [hitL_len, HXL.out]; omega), by rw [addAt, ← nth_ofL]; exact HST.out, HI2.out⟩
                case measure => simp [intOf]; omega
              · have q0_0 := l1.cell (k := 0) rfl
                have q0_1 := l1.cell (k := 1) rfl
                have q0_2 := l1.cell (k := 2) rfl
                have q0_l := l1.lt
                go_wp2
                clear q0_0 q0_1 q0_2 q0_l
                have HK2 := Lib.hid hk2
                have H36 := Lib.hid h36
                have H1W := Lib.hid h1w
                have H200 := Lib.hid h200
                clear hnb hjn h36 h1w h200
                obtain ⟨r, hr⟩ : ∃ r, k % n8 = r := ⟨_, rfl⟩
                obtain ⟨s, hs9⟩ : ∃ s, k / n8 = s := ⟨_, rfl⟩
                have er : (k : Int) % (n8 : Int) = (r : Int) := by rw [← hr]; exact (Int.natCast_emod _ _).symm
                have es : (k : Int) / (n8 : Int) = (s : Int) := by rw [← hs9]; exact (Int.natCast_ediv _ _).symm
                have hrn : r < n8 := by rw [← hr]; exact Nat.mod_lt _ h0
                have hsk : s ≤ k := by rw [← hs9]; exact Nat.div_le_self _ _
                have hn8 : (n8 : Int) ≠ 0 := Int.natCast_ne_zero.2 (Nat.pos_iff_ne_zero.1 h0)
                have hyb := hys.2.1 r (by rw [← HN8.out]; exact hrn)
                obtain ⟨b, hb⟩ : ∃ b : Nat, nth ys r = (b : Int) := Int.eq_ofNat_of_zero_le hyb.1
                rw [hb] at hyb
                obtain ⟨b8, o8, k8, e8, hk8, hb8, hg8⟩ := hys.at (k := 0) (by rw [← HN8.out]; exact h0)
                injection e8 with f1 f2 f3
                subst f1
                have gy := hg8 r (by rw [← HN8.out]; exact hrn)
                rw [hb] at gy
                obtain ⟨eb, eW, e2⟩ := by_idx hyb hsk hk2
                obtain ⟨j9, hj⟩ : ∃ j9, (b + s) % nl = j9 := ⟨_, rfl⟩
                have HJ := Lib.hid (by_mod (nl := nl) hyb hsk hk2)
                rw [hj] at HJ
                have hj9 : j9 < nl := by rw [← hj]; exact Nat.mod_lt _ hn0
                clear e2
                have hnl0 : (nl : Int) ≠ 0 := Int.natCast_ne_zero.2 (Nat.pos_iff_ne_zero.1 hn0)
                clear f2 f3 hg8 hr hs9 hyb hk8 hb hj hsk
                refine Mix.region_mixL (Mix.kinds [] [] []) (by kernel_rfl) (by kernel_rfl) ?_
                repeat ((with_reducible refine Mix.atCons ?_); first | refine Mix.skipU (by rfl) rfl (by rfl) ?_ | (refine Mix.val rfl rfl (by rfl) (fun K hK => ?_); go_big_quiet_op; refine hK _ ?_; clear hK K))
                refine Mix.done (fun x1 => ?_)
                replace hys := (hys.later x1)
                replace l1 := (l1.later x1)
                replace l5 := (l5.later x1)
                replace hx := (hx.later x1)
                replace hu := (hu.later x1)
                replace hM := (hM.later x1)
                replace S := (S.later x1)
                obtain ⟨Y10, hZ⟩ : ∃ Z : Later Y7.w, Z.w = x1.w := ⟨Y9.step (x1), rfl⟩
                rw [← hZ] at S hys l1 l5 hx hu hM ⊢
                clear hZ
                rw [HJ.out]
                have hk2 := HK2.out
                have h36 := H36.out
                have h1w := H1W.out
                clear er es
                obtain ⟨i, hi, hi4, hni⟩ := highL_at (x := x) (k := wn * hn) (j := j9) (by rw [← HNL.out]; exact hj9)
                obtain ⟨bl, ol, kl, e, hkl, hbl, hgl⟩ := (hM.ints (by have := highL_len x (wn * hn); omega)).at (k := j9) (by rw [← HNL.out]; exact hj9)
                injection e with e1 e2 e3
                subst e1
                have gl := hgl j9 (by rw [← HNL.out]; exact hj9)
                rw [hni] at gl
                try rw [Nat.add_zero] at gl
                clear e2 e3 hgl hkl
                have hinv : i < nv := by rw [HN5.out]; exact hi
                have HI := Lib.hid hi
                have HI4 := Lib.hid hi4
                have HNI := Lib.hid hni
                clear hni hi hi4
                have q0_0 := l1.cell (k := 0) rfl
                have q0_1 := l1.cell (k := 1) rfl
                have q0_2 := l1.cell (k := 2) rfl
                have q0_l := l1.lt
                go_wp2
                refine Mix.region_mixL (Mix.kinds [] [9] []) (by kernel_rfl) (by kernel_rfl) ?_
                repeat ((with_reducible refine Mix.atCons ?_); first | refine Mix.skipU (by rfl) rfl (by rfl) ?_ | (refine Mix.val rfl rfl (by rfl) (fun K hK => ?_); go_big_quiet_op; refine hK _ ?_; clear hK K))
                refine Mix.loud rfl (by rfl) (fun x1 K hK => ?_)
                go_wp2_with fail
                refine (Hit_calls wn hn i 1 _ x hs HI.out _ (hx.later x1) HXL.out (fun j hj => by have := low_x hs hI.out.1 HLW.out j (by rw [← HXL.out]; exact hj); omega) (by omega) (by omega)).mono ?_
                rintro e w' ⟨v, y1, rfl, rfl, hX2⟩
                obtain ⟨ax2, nx2, cx2, rfl⟩ := hX2.form'
                have hne2 : (Value.slice ax2 nx2 cx2).ownBlock ≠ some G := fun e => by
                  have h1 := (World.ownsRow.lt hX2 _ e).1
                  have h2 := (World.ownsRow.lt (hu.later x1) G rfl).2
                  omega
                refine hK _ y1 ?_
                clear hK K
                try go_frame
                repeat ((with_reducible refine Mix.atCons ?_); first | refine Mix.skipU (by rfl) rfl (by rfl) ?_ | (refine Mix.val rfl rfl (by rfl) (fun K hK => ?_); go_big_quiet_op; refine hK _ ?_; clear hK K))
                refine Mix.done (fun x2 => ?_)
                clear q0_0 q0_1 q0_2 q0_l
                replace hys := (((hys.later x1).later y1).later x2)
                replace l1 := (((l1.later x1).later y1).later x2)
                replace l5 := (((l5.later x1).later y1).later x2)
                replace hx := (((hx.later x1).later y1).later x2)
                replace hu := (((hu.later x1).later y1).later x2)
                replace hM := (((hM.later x1).later y1).later x2)
                replace S := (((S.later x1).later y1).later x2)
                replace hX2 := (hX2.later x2)
                obtain ⟨Y11, hZ⟩ : ∃ Z : Later Y7.w, Z.w = x2.w := ⟨Y10.step (x1.step (y1.step (x2))), rfl⟩
                rw [← hZ] at S hys l1 l5 hx hu hM hX2 ⊢
                clear hZ
                obtain ⟨bl', ol', kl', e, _, hbl', hgl⟩ := (hM.ints (by have := highL_len x (wn * hn); omega)).at (k := j9) (by rw [← HNL.out]; exact hj9)
                injection e with e1 e2 e3
                injection e1 with e1
                injection e1 with e1 e4 e5
                subst e1 e4
                have gl2 := hgl j9 (by rw [← HNL.out]; exact hj9)
                rw [HNI.out] at gl2
                try rw [Nat.add_zero] at gl2
                clear e2 e3 e5 hgl gl hbl
                obtain ⟨g9, e9, z1, z2, z3, z4, fG, gG, hst, hgr⟩ := hu.set (k := i) (by rw [HUX.out]; exact HI.out) (nth u i + 1)
                cases e9
                have hlu := low_u hs hI.out.1 HLW.out i HI.out
                have hup := hI.out.1.pos i HI.out
                have e3 : IntKind.i64.wrap (nth u i + 1) = nth u i + 1 := IntWalk.i64_in _ (by rw [nth_ofL]; omega)
                have HST := Lib.hid hst
                have HGR := Lib.hid hgr
                have HI2 : Hid (RunL wn hn d (addAt u i 1) (hitL wn hn x i 1) ∧ Sand.sum (wn * hn) (ofL (addAt u i 1)) = ((k + 1 : Nat) : Int)) := ⟨hI.out.1.blow hs HI.out (by omega) (by have := HI4.out; omega), by rw [sum_addAt HI.out HUX.out, hI.out.2]; omega⟩
                have Z2 := Lib.hid z2
                clear z1 z2 z4 hst hgr hlu hup
                go_wp2
                go_roundw
                case rel => exact ⟨k + 1, _, _, ⟨_, Y11.le.setCell (p := ⟨G, i, none⟩) Z2.out _⟩, _, _, _, rfl, by go_num, rfl, (hX2.kept HGR.out (.inr hne2)).ints (by rw [hitL_len, HXL.out]; omega), by rw [addAt, ← nth_ofL]; exact HST.out, HI2.out⟩
                case measure => simp [intOf]; omega
end Go.Proofs.Ytbjmfhlkmklmmaa
