import Derived.Test.YtbjmfhlkmklmmaaWkP
import Derived.Test.YtbjmfhlkmklmmaaThB
import Derived.Test.YtbjmfhlkmklmmaaOwn2
/-  MendLeast. -/
namespace Go.Proofs.Ytbjmfhlkmklmmaa
open Go.RowKit

/-- how many blows are tried at a place -/
def tryN (U ys : List Int) (k : Nat) : Int := if 0 < ys.length then max 0 (ofL U k + ofL ys (k % ys.length)) else ofL U k
def tryL (U ys : List Int) (k : Nat) : List Int := (List.range k).map (tryN U ys)
theorem tryL_snoc (U ys : List Int) (k : Nat) : tryL U ys (k + 1) = tryL U ys k ++ [tryN U ys k] := by simp [tryL, List.range_succ]
theorem tryL_len (U ys : List Int) (k : Nat) : (tryL U ys k).length = k := by simp [tryL]
theorem ofL_tryL (U ys : List Int) (k : Nat) {j : Nat} (hj : j < k) : ofL (tryL U ys k) j = tryN U ys j := by simp [ofL, tryL, hj]
theorem take_one {xs : List Int} {k : Nat} (h : k < xs.length) : xs.take k ++ [ofL xs k] = xs.take (k + 1) := by rw [← nth_ofL]; exact take_snoc h
theorem tryN_range {U ys : List Int} {k : Nat} (hu : 0 ≤ ofL U k ∧ ofL U k ≤ 348) (hy : ∀ j, j < ys.length → -128 ≤ nth ys j ∧ nth ys j ≤ 127) : 0 ≤ tryN U ys k ∧ tryN U ys k ≤ 1000000 := by
  rw [tryN]
  split
  · rename_i h
    have := hy (k % ys.length) (Nat.mod_lt _ h)
    rw [nth_ofL] at this
    omega
  · omega
/-- blows that leave a plate flat are nowhere fewer -/
theorem Ham.flatBlows {w h : Nat} (hs : sized w h) {d X U bl : List Int} (hm : Ham w h d X U) (hv : vplate w h d = 0) (hl : bl.length = w * h) (hb : ∀ j, j < w * h → 0 ≤ ofL bl j ∧ ofL bl j ≤ 1000000) :
    (blowsE w h d bl = 0 ∨ blowsE w h d bl = 22) ∧ (blowsE w h d bl = 0 → ∀ j, j < w * h → ofL U j ≤ ofL bl j) := by
  have hl2 : bl.length = d.length := by rw [hl, hm.lenD]
  rw [blowsE_of hv hl2 fun j hj => hb j (by rw [← hm.lenD]; exact hj)]
  by_cases hf : flatB (hitsL w h d bl d.length) = true
  · rw [if_pos hf]
    refine ⟨.inl rfl, fun _ => hm.least (fun j hj => (hb j hj).1) fun j hj => ?_⟩
    rw [flatB, List.all_eq_true] at hf
    have hj2 : j < (hitsL w h d bl d.length).length := by rw [hitsL_len, hm.lenD]; exact hj
    have := hf _ (List.getElem_mem hj2)
    rw [← nth_eq hj2, nth_ofL, hm.lenD, hitsL_all hs hm.lenD bl hj] at this
    simpa using this
  · rw [if_neg hf]
    exact ⟨.inr rfl, fun h => by cases h⟩
set_option maxRecDepth 100000 in
set_option maxHeartbeats 8000000 in
theorem LLeast_calls (w h : Int) (m : Nat) (hm255 : m ≤ 255) (dv bv : Value) (d ys : List Int) (W : World) (hd : Ints W dv d) (hys : I8s W bv ys) :
    Calls Try.prog 8 #[.agg #[.int .i64 w, .int .i64 h, dv], bv, .int .u8 (m : Int)] W (Gives (.bool true) W) := by
  have S : Ins W [] := Ins.nil _
  obtain ⟨a1, n1, c1, rfl⟩ : ∃ a n c, dv = .slice a n c := by obtain ⟨a, c, e⟩ := hd.form; exact ⟨a, _, c, e⟩
  have S := S.cons hd
  obtain ⟨a8, n8, c8, rfl⟩ : ∃ a n c, bv = .slice a n c := by obtain ⟨a, c, e⟩ := hys.form; exact ⟨a, _, c, e⟩
  have HN8 := Lib.hid (show n8 = ys.length by obtain ⟨a, c, e⟩ := hys.form; cases e; rfl)
  by_cases hv : vplate w h d = 0
  rotate_left
  · have hvb : (vplate w h d == 0) = false := by simpa using hv
    clear hv
    go_enter Try.func8, Try.ntmps8
    go_wp2_with fail
    obtain ⟨B1, hb⟩ : ∃ b, b = W.heap.size := ⟨_, rfl⟩
    have l1 : Lin (W.alloc (.cells #[.int .i64 w, .int .i64 h, .slice a1 n1 c1] 24)) B1 24 [.int .i64 w, .int .i64 h, .slice a1 n1 c1] := by rw [hb]; exact Lin.new _ _ [.int .i64 w, .int .i64 h, .slice a1 n1 c1]
    replace S := S.later (Later.new _ (.cells #[.int .i64 w, .int .i64 h, .slice a1 n1 c1] 24))
    rw [Later.new_w] at S
    replace hys := hys.later (Later.new _ (.cells #[.int .i64 w, .int .i64 h, .slice a1 n1 c1] 24))
    rw [Later.new_w] at hys
    have hsz : (W.alloc (.cells #[.int .i64 w, .int .i64 h, .slice a1 n1 c1] 24)).heap.size = B1 + 1 := by rw [hb]; simp
    obtain ⟨Y2, hZ⟩ : ∃ Z : Later W, Z.w = W.alloc (.cells #[.int .i64 w, .int .i64 h, .slice a1 n1 c1] 24) := ⟨Later.new _ _, rfl⟩
    rw [← hZ] at S hsz hys l1 ⊢
    clear hZ
    rw [← hb]
    clear hb
    clear hsz
    refine (fine_calls w h _ d _ (S.at (v := .slice a1 n1 c1) (xs := d) (by simp))).mono ?_
    rintro e w' ⟨rfl, y, rfl⟩
    rw [hvb]
    replace hys := hys.later y
    replace l1 := l1.later y
    replace S := S.later y
    obtain ⟨Y3, hZ⟩ : ∃ Z : Later W, Z.w = y.w := ⟨Y2.step (y), rfl⟩
    rw [← hZ] at S hys l1 ⊢
    clear hZ
    clear y
    have q0_0 := l1.cell (k := 0) rfl
    have q0_1 := l1.cell (k := 1) rfl
    have q0_2 := l1.cell (k := 2) rfl
    have q0_l := l1.lt
    go_wp2_with fail
    clear q0_0 q0_1 q0_2 q0_l
    refine (Works_calls _).mono ?_
    rintro e w' ⟨rfl, y, rfl⟩
    go_wp2
    go_ret
    exact ⟨rfl, Y3.step y, rfl⟩
  · obtain ⟨wn, hn, rfl, rfl, _⟩ := vplate_zero hv
    obtain ⟨hs, hl, hlo, hlow⟩ := valid_low hv
    obtain ⟨X, U, hm⟩ := ham_ex hs hl hlow
    have h36 : wn * hn ≤ 36 := Nat.mul_le_mul hs.2.1 hs.2.2.2
    have h1w : 1 ≤ wn * hn := Nat.mul_le_mul hs.1 hs.2.2.1
    have HV := Lib.hid hv
    have HL := Lib.hid hl
    have HLO := Lib.hid hlo
    have HLW := Lib.hid hlow
    have HM := Lib.hid hm
    have hvb : (vplate wn hn d == 0) = true := by rw [hv]; rfl
    have HN1 := Lib.hid (show n1 = d.length by obtain ⟨a, c, e⟩ := hd.form; cases e; rfl)
    clear hv hl hlo hlow hm
    go_enter Try.func8, Try.ntmps8
    go_wp2_with fail
    obtain ⟨B1, hb⟩ : ∃ b, b = W.heap.size := ⟨_, rfl⟩
    have l1 : Lin (W.alloc (.cells #[.int .i64 wn, .int .i64 hn, .slice a1 n1 c1] 24)) B1 24 [.int .i64 wn, .int .i64 hn, .slice a1 n1 c1] := by rw [hb]; exact Lin.new _ _ [.int .i64 wn, .int .i64 hn, .slice a1 n1 c1]
    replace S := S.later (Later.new _ (.cells #[.int .i64 wn, .int .i64 hn, .slice a1 n1 c1] 24))
    rw [Later.new_w] at S
    replace hys := hys.later (Later.new _ (.cells #[.int .i64 wn, .int .i64 hn, .slice a1 n1 c1] 24))
    rw [Later.new_w] at hys
    have hsz : (W.alloc (.cells #[.int .i64 wn, .int .i64 hn, .slice a1 n1 c1] 24)).heap.size = B1 + 1 := by rw [hb]; simp
    obtain ⟨Y2, hZ⟩ : ∃ Z : Later W, Z.w = W.alloc (.cells #[.int .i64 wn, .int .i64 hn, .slice a1 n1 c1] 24) := ⟨Later.new _ _, rfl⟩
    rw [← hZ] at S hsz hys l1 ⊢
    clear hZ
    rw [← hb]
    clear hb
    clear hsz
    refine (fine_calls wn hn _ d _ (S.at (v := .slice a1 n1 c1) (xs := d) (by simp))).mono ?_
    rintro e w' ⟨rfl, y, rfl⟩
    rw [hvb]
    clear hvb
    replace hys := hys.later y
    replace l1 := l1.later y
    replace S := S.later y
    obtain ⟨Y3, hZ⟩ : ∃ Z : Later W, Z.w = y.w := ⟨Y2.step (y), rfl⟩
    rw [← hZ] at S hys l1 ⊢
    clear hZ
    clear y
    by_cases h100 : 100 < n8
    · have q0_0 := l1.cell (k := 0) rfl
      have q0_1 := l1.cell (k := 1) rfl
      have q0_2 := l1.cell (k := 2) rfl
      have q0_l := l1.lt
      go_wp2_with fail
      clear q0_0 q0_1 q0_2 q0_l
      refine (Works_calls _).mono ?_
      rintro e w' ⟨rfl, y, rfl⟩
      go_wp2
      go_ret
      exact ⟨rfl, Y3.step y, rfl⟩
    · have q0_0 := l1.cell (k := 0) rfl
      have q0_1 := l1.cell (k := 1) rfl
      have q0_2 := l1.cell (k := 2) rfl
      have q0_l := l1.lt
      go_wp2_with fail
      clear q0_0 q0_1 q0_2 q0_l
      clear h100
      have HBO := Lib.hid (HM.out.blowsOK hs HLW.out HV.out)
      have HUL := Lib.hid HM.out.lenU
      have HUP := Lib.hid (HM.out.upos hs HLW.out)
      refine (flat_calls wn hn _ d X U _ (S.at (v := .slice a1 n1 c1) (xs := d) (by simp)) HV.out HM.out).mono ?_
      rintro e w' ⟨v, u, y, rfl, rfl, hR, hU⟩
      replace hys := hys.later y
      replace l1 := l1.later y
      replace S := S.later y
      obtain ⟨a4, n4, c4, rfl⟩ : ∃ a n c, v = .slice a n c := by obtain ⟨a, c, e⟩ := hR.form; exact ⟨a, _, c, e⟩
      replace S := S.cons hR
      obtain ⟨a5, n5, c5, rfl⟩ : ∃ a n c, u = .slice a n c := by obtain ⟨a, c, e⟩ := hU.form; exact ⟨a, _, c, e⟩
      replace S := S.cons hU
      obtain ⟨Y6, hZ⟩ : ∃ Z : Later W, Z.w = y.w := ⟨Y3.step (y), rfl⟩
      rw [← hZ] at S hys l1 ⊢
      clear hZ
      clear y hR hU
      have q0_0 := l1.cell (k := 0) rfl
      have q0_1 := l1.cell (k := 1) rfl
      have q0_2 := l1.cell (k := 2) rfl
      have q0_l := l1.lt
      go_wp2_with fail
      clear q0_0 q0_1 q0_2 q0_l
      obtain ⟨B7, hb⟩ : ∃ b, b = Y6.w.heap.size := ⟨_, rfl⟩
      have l7 : Lin (Y6.w.alloc (.cells #[.int .i64 wn, .int .i64 hn, .slice a4 n4 c4] 24)) B7 24 [.int .i64 wn, .int .i64 hn, .slice a4 n4 c4] := by rw [hb]; exact Lin.new _ _ [.int .i64 wn, .int .i64 hn, .slice a4 n4 c4]
      replace S := S.later (Later.new _ (.cells #[.int .i64 wn, .int .i64 hn, .slice a4 n4 c4] 24))
      rw [Later.new_w] at S
      replace hys := hys.later (Later.new _ (.cells #[.int .i64 wn, .int .i64 hn, .slice a4 n4 c4] 24))
      rw [Later.new_w] at hys
      replace l1 := l1.later (Later.new _ (.cells #[.int .i64 wn, .int .i64 hn, .slice a4 n4 c4] 24))
      rw [Later.new_w] at l1
      have hsz : (Y6.w.alloc (.cells #[.int .i64 wn, .int .i64 hn, .slice a4 n4 c4] 24)).heap.size = B7 + 1 := by rw [hb]; simp
      obtain ⟨Y8, hZ⟩ : ∃ Z : Later W, Z.w = Y6.w.alloc (.cells #[.int .i64 wn, .int .i64 hn, .slice a4 n4 c4] 24) := ⟨Y6.step (Later.new _ _), rfl⟩
      rw [← hZ] at S hsz hys l1 l7 ⊢
      clear hZ
      rw [← hb]
      clear hb
      clear hsz
      refine (CheckBlows_calls wn hn _ _ d U _ (S.at (v := .slice a1 n1 c1) (xs := d) (by simp)) (S.at (v := .slice a5 n5 c5) (xs := U) (by simp))).mono ?_
      rintro e w' ⟨rfl, y, rfl⟩
      rw [HBO.out]
      replace hys := hys.later y
      replace l1 := l1.later y
      replace l7 := l7.later y
      replace S := S.later y
      obtain ⟨Y9, hZ⟩ : ∃ Z : Later W, Z.w = y.w := ⟨Y8.step (y), rfl⟩
      rw [← hZ] at S hys l1 l7 ⊢
      clear hZ
      clear y
      obtain ⟨bu, ou, ku, e, hku, hbu, hgu⟩ := (S.at (v := .slice a5 n5 c5) (xs := U) (by simp)).at (k := 0) (by rw [HUL.out]; exact h1w)
      injection e with e1 e2 e3
      subst e1 e3
      have HNu := Lib.hid e2
      have HGu := Lib.hid hgu
      clear e2 hgu
      have HNU := Lib.hid (HNu.out.trans HUL.out)
      obtain ⟨i, hi⟩ : ∃ i, m % n5 = i := ⟨_, rfl⟩
      have hiN : i < wn * hn := by rw [← hi, HNU.out]; exact Nat.mod_lt _ (by omega)
      have ei : (m : Int) % (n5 : Int) = (i : Int) := by rw [← hi]; exact (Int.natCast_emod _ _).symm
      have hn0 : (n5 : Int) ≠ 0 := by have := HNU.out; omega
      have HIN := Lib.hid hiN
      clear hi hiN
      have HT0 := TwoN.nil Y9.w.heap.size Y9.w
      go_wp2
      rw [ei]
      go_loopw [10, 11, 12, 14] (fun o l f c wr => ∃ (k : Nat) (V : Later Y9.w) (fb : Bool) (vo vl : Value), wr = V.w ∧ k ≤ wn * hn ∧ c = .int .i64 k ∧ f = .bool fb ∧ vo = o ∧ vl = l ∧ TwoN Y9.w.heap.size V.w vo vl (tryL U ys k) (U.take k) ∧ Hid (fb = true → ∃ j, j < k ∧ tryN U ys j < ofL U j)) (fun _ _ _ c _ => wn * hn - (intOf c).toNat)
      case atStart => exact ⟨0, Later.self _, false, _, _, rfl, Nat.zero_le _, rfl, rfl, rfl, rfl, HT0, fun h => by cases h⟩
      case round =>
        obtain ⟨k, V, fb, vo, vl, rfl, hk, rfl, rfl, rfl, rfl, hT, hF⟩ := hrel
        by_cases hlt : k < wn * hn
        · have gu := (V.cell hbu).trans (HGu.out k (by rw [HUL.out]; exact hlt))
          have lu := Nat.lt_of_lt_of_le hbu V.size
          rw [nth_ofL] at gu
          have hku : k < n5 := by rw [HNU.out]; exact hlt
          have hu := HUP.out k hlt
          obtain ⟨ty, hty⟩ : ∃ ty, tryN U ys k = ty := ⟨_, rfl⟩
          obtain ⟨vo', q1, hr1, hT1⟩ := app_twoN V.le hT ty (by rw [tryL_len]; omega) 22
          obtain ⟨vl', q2, hr2, hT2⟩ := app_twoN q1.le hT1.symm (ofL U k) (by rw [List.length_take]; omega) 22
          have gu1 := (q1.cell hbu).trans (HGu.out k (by rw [HUL.out]; exact hlt))
          have lu1 := Nat.lt_of_lt_of_le hbu q1.size
          rw [nth_ofL] at gu1
          have HT2 : Hid (TwoN Y9.w.heap.size q2.w vo' vl' (tryL U ys (k + 1)) (U.take (k + 1))) := by
            rw [tryL_snoc, hty, ← take_one (by rw [HUL.out]; exact hlt)]
            exact hT2.symm
          have HR1 := Lib.hid hr1
          have HR2 := Lib.hid hr2
          clear hr1 hr2 hT1 hT2 hT
          have HTY := Lib.hid hty
          by_cases h0 : 0 < n8
          · obtain ⟨r, hr⟩ : ∃ r, k % n8 = r := ⟨_, rfl⟩
            have er : (k : Int) % (n8 : Int) = (r : Int) := by rw [← hr]; exact (Int.natCast_emod _ _).symm
            have hrn : r < n8 := by rw [← hr]; exact Nat.mod_lt _ h0
            have hn8 : (n8 : Int) ≠ 0 := by omega
            have hyb := hys.2.1 r (by rw [← HN8.out]; exact hrn)
            obtain ⟨b8, o8, k8, e8, hk8, hb8, hg8⟩ := hys.at (k := 0) (by rw [← HN8.out]; exact h0)
            injection e8 with f1 f2 f3
            subst f1
            have gy := (V.cell hb8).trans (hg8 r (by rw [← HN8.out]; exact hrn))
            have ly := Nat.lt_of_lt_of_le hb8 V.size
            rw [nth_ofL] at gy hyb
            rw [tryN, if_pos (by rw [← HN8.out]; exact h0), ← HN8.out, hr] at hty
            have e1 : IntKind.i64.wrap (ofL ys r) = ofL ys r := IntWalk.i64_in _ (by omega)
            have e2 : IntKind.i64.wrap (ofL U k + ofL ys r) = ofL U k + ofL ys r := IntWalk.i64_in _ (by omega)
            clear f2 f3 hg8 hr hyb hk8
            cases fb
            · go_wp2_with (first | (with_reducible show wpList _ _ _ (⟨some 81, _, _, _, _, _⟩ :: _) _ _); refine Lib.wpList_append_run_sl _ rfl _ _ 22 rfl _ _ rfl rfl HR1.out ?_ | (with_reducible show wpList _ _ _ (⟨some 88, _, _, _, _, _⟩ :: _) _ _); refine Lib.wpList_append_run_sl _ rfl _ _ 22 rfl _ _ rfl rfl HR2.out ?_)
              go_roundw
              case rel => exact ⟨k + 1, q2, decide (ty < ofL U k), vo', vl', rfl, by omega, by go_num, rfl, rfl, rfl, HT2.out, fun h => ⟨k, Nat.lt_succ_self k, by rw [HTY.out]; exact of_decide_eq_true h⟩⟩
              case measure => simp [intOf]; omega
            · go_wp2_with (first | (with_reducible show wpList _ _ _ (⟨some 81, _, _, _, _, _⟩ :: _) _ _); refine Lib.wpList_append_run_sl _ rfl _ _ 22 rfl _ _ rfl rfl HR1.out ?_ | (with_reducible show wpList _ _ _ (⟨some 88, _, _, _, _, _⟩ :: _) _ _); refine Lib.wpList_append_run_sl _ rfl _ _ 22 rfl _ _ rfl rfl HR2.out ?_)
              go_roundw
              case rel => exact ⟨k + 1, q2, true, vo', vl', rfl, by omega, by go_num, rfl, rfl, rfl, HT2.out, fun _ => (hF.out rfl).imp fun j h => ⟨by omega, h.2⟩⟩
              case measure => simp [intOf]; omega
          · rw [tryN, if_neg (by rw [← HN8.out]; exact h0)] at hty
            subst hty
            cases fb
            · go_wp2_with (first | (with_reducible show wpList _ _ _ (⟨some 81, _, _, _, _, _⟩ :: _) _ _); refine Lib.wpList_append_run_sl _ rfl _ _ 22 rfl _ _ rfl rfl HR1.out ?_ | (with_reducible show wpList _ _ _ (⟨some 88, _, _, _, _, _⟩ :: _) _ _); refine Lib.wpList_append_run_sl _ rfl _ _ 22 rfl _ _ rfl rfl HR2.out ?_)
              go_roundw
              case rel => exact ⟨k + 1, q2, false, vo', vl', rfl, by omega, by go_num, by first | rfl | simp, rfl, rfl, HT2.out, fun h => by cases h⟩
              case measure => simp [intOf]; omega
            · go_wp2_with (first | (with_reducible show wpList _ _ _ (⟨some 81, _, _, _, _, _⟩ :: _) _ _); refine Lib.wpList_append_run_sl _ rfl _ _ 22 rfl _ _ rfl rfl HR1.out ?_ | (with_reducible show wpList _ _ _ (⟨some 88, _, _, _, _, _⟩ :: _) _ _); refine Lib.wpList_append_run_sl _ rfl _ _ 22 rfl _ _ rfl rfl HR2.out ?_)
              go_roundw
              case rel => exact ⟨k + 1, q2, true, vo', vl', rfl, by omega, by go_num, rfl, rfl, rfl, HT2.out, fun _ => (hF.out rfl).imp fun j h => ⟨by omega, h.2⟩⟩
              case measure => simp [intOf]; omega
        · obtain rfl : k = wn * hn := by omega
          have hkn : ¬ wn * hn < n5 := by have := HNU.out; omega
          rw [List.take_of_length_le (by rw [HUL.out]; exact Nat.le_refl _)] at hT
          obtain ⟨al, nl, cl, rfl⟩ := hT.2.1.form'
          have hlo9 : W.heap.size ≤ Y9.w.heap.size := Y9.size
          have hB19 : B1 < Y9.w.heap.size := l1.lt
          replace hys := hys.later V
          replace l1 := l1.later V
          replace l7 := l7.later V
          replace S := (S.later V).cons (hT.1.ints (by rw [tryL_len]; omega))
          obtain ⟨Y10, hZ⟩ : ∃ Z : Later W, Z.w = V.w := ⟨Y9.step (V), rfl⟩
          rw [← hZ] at S hys l1 l7 hT ⊢
          clear hZ
          clear HGu hbu
          have HTB := Lib.hid (show ∀ j, j < wn * hn → 0 ≤ ofL (tryL U ys (wn * hn)) j ∧ ofL (tryL U ys (wn * hn)) j ≤ 1000000 from fun j hj => by rw [ofL_tryL _ _ _ hj]; exact tryN_range (HUP.out j hj) hys.2.1)
          obtain ⟨hE, hle⟩ := HM.out.flatBlows hs HV.out (tryL_len U ys (wn * hn)) HTB.out
          obtain ⟨e, he⟩ : ∃ e, blowsE wn hn d (tryL U ys (wn * hn)) = e := ⟨_, rfl⟩
          rw [he] at hE hle
          have HE := Lib.hid hE
          have HLE := Lib.hid hle
          have Hee := Lib.hid he
          clear hE hle he
          have q0_0 := l1.cell (k := 0) rfl
          have q0_1 := l1.cell (k := 1) rfl
          have q0_2 := l1.cell (k := 2) rfl
          have q0_l := l1.lt
          go_wp2_with fail
          clear q0_0 q0_1 q0_2 q0_l
          refine (CheckBlows_calls wn hn _ _ d (tryL U ys (wn * hn)) _ (S.at (v := .slice a1 n1 c1) (xs := d) (by simp)) (S.at (v := vo) (xs := (tryL U ys (wn * hn))) (by simp))).mono ?_
          rintro e w' ⟨rfl, y, rfl⟩
          rw [Hee.out]
          replace hys := hys.later y
          replace l1 := l1.later y
          replace l7 := l7.later y
          replace hT := hT.later y
          replace S := S.later y
          obtain ⟨Y11, hZ⟩ : ∃ Z : Later W, Z.w = y.w := ⟨Y10.step (y), rfl⟩
          rw [← hZ] at S hys l1 l7 hT ⊢
          clear hZ
          clear y
          rcases HE.out with h9 | h9
          · subst h9
            obtain rfl : fb = false := by
              cases fb with
              | false => rfl
              | true =>
                obtain ⟨j, hj, hj2⟩ := hF.out rfl
                have := HLE.out rfl j hj
                rw [ofL_tryL _ _ _ hj] at this
                omega
            have q0_0 := l1.cell (k := 0) rfl
            have q0_1 := l1.cell (k := 1) rfl
            have q0_2 := l1.cell (k := 2) rfl
            have q0_l := l1.lt
            go_wp2_with fail
            clear q0_0 q0_1 q0_2 q0_l
            refine (refCheckBlows_calls wn hn _ _ d (tryL U ys (wn * hn)) _ (S.at (v := .slice a1 n1 c1) (xs := d) (by simp)) (S.at (v := vo) (xs := (tryL U ys (wn * hn))) (by simp))).mono ?_
            rintro e w' ⟨rfl, y, rfl⟩
            rw [Hee.out]
            replace hys := hys.later y
            replace l1 := l1.later y
            replace l7 := l7.later y
            replace hT := hT.later y
            replace S := S.later y
            obtain ⟨Y12, hZ⟩ : ∃ Z : Later W, Z.w = y.w := ⟨Y11.step (y), rfl⟩
            rw [← hZ] at S hys l1 l7 hT ⊢
            clear hZ
            clear y
            obtain ⟨gl, e0, j1, j2, j3, j4, fq, gq, j5, j6⟩ := hT.2.1.set (k := i) (by rw [HUL.out]; exact HIN.out) (ofL U i - 1)
            cases e0
            rw [nth_ofL] at gq
            rw [HUL.out] at j1
            have hinl : i < nl := by rw [j1]; exact HIN.out
            have HJ5 := Lib.hid j5
            have hgB : gl ≠ B1 := by omega
            have hgB' : B1 ≠ gl := by omega
            clear j4 j5 j6
            have hu := HUP.out i HIN.out
            by_cases hz : ofL U i = 0
            · rw [hz] at gq
              clear hz
              have q0_0 := l1.cell (k := 0) rfl
              have q0_1 := l1.cell (k := 1) rfl
              have q0_2 := l1.cell (k := 2) rfl
              have q0_l := l1.lt
              go_wp2_with fail
              clear q0_0 q0_1 q0_2 q0_l
              refine (Works_calls _).mono ?_
              rintro e w' ⟨rfl, y, rfl⟩
              go_wp2
              go_ret
              exact ⟨rfl, Y12.step y, rfl⟩
            · have e9 : IntKind.i64.wrap (ofL U i - 1) = ofL U i - 1 := IntWalk.i64_in _ (by omega)
              have hzb : (ofL U i == 0) = false := by simpa using hz
              have q0_0 := l1.cell (k := 0) rfl
              have q0_1 := l1.cell (k := 1) rfl
              have q0_2 := l1.cell (k := 2) rfl
              have q0_l := l1.lt
              have h22 : blowsE wn hn d (U.set i (ofL U i - 1)) = 22 := by
                have hul : i < U.length := by rw [HUL.out]; exact HIN.out
                obtain ⟨h1, h2⟩ := HM.out.flatBlows hs HV.out (bl := U.set i (ofL U i - 1)) (by rw [List.length_set, HUL.out]) (fun j hj => by rw [ofL_set _ _ _ _ hul]; have := HUP.out j hj; split <;> omega)
                rcases h1 with h1 | h1
                · have := h2 h1 i HIN.out
                  rw [ofL_set _ _ _ _ hul, if_pos rfl] at this
                  omega
                · exact h1
              have H22 := Lib.hid h22
              clear h22
              go_wp2_with fail
              obtain ⟨Z, hZ⟩ : ∃ Z : Later W, Z.w = (Y12.w.setCell ⟨gl, i, none⟩ (.int .i64 (ofL U i - 1))) := ⟨⟨_, Y12.le.setCell (p := ⟨gl, i, none⟩) (Nat.le_trans hlo9 j2) _⟩, rfl⟩
              have hl9 : Ints Z.w (.slice (some ⟨gl, 0, none⟩) nl cl) (U.set i (ofL U i - 1)) := by rw [hZ]; exact HJ5.out.ints (by rw [List.length_set, HUL.out]; omega)
              rw [j1] at hl9
              rw [← hZ]
              clear hZ HJ5 fq gq q0_0 q0_1 q0_2 q0_l
              refine (CheckBlows_calls wn hn _ _ d (U.set i (ofL U i - 1)) _ (hd.later Z) hl9).mono ?_
              rintro e w' ⟨rfl, y, rfl⟩
              rw [H22.out]
              go_wp2_with fail
              refine (Works_calls _).mono ?_
              rintro e w' ⟨rfl, y2, rfl⟩
              go_wp2
              go_ret
              exact ⟨rfl, (Z.step y).step y2, rfl⟩
          · subst h9
            have q0_0 := l1.cell (k := 0) rfl
            have q0_1 := l1.cell (k := 1) rfl
            have q0_2 := l1.cell (k := 2) rfl
            have q0_l := l1.lt
            go_wp2_with fail
            clear q0_0 q0_1 q0_2 q0_l
            refine (refCheckBlows_calls wn hn _ _ d (tryL U ys (wn * hn)) _ (S.at (v := .slice a1 n1 c1) (xs := d) (by simp)) (S.at (v := vo) (xs := (tryL U ys (wn * hn))) (by simp))).mono ?_
            rintro e w' ⟨rfl, y, rfl⟩
            rw [Hee.out]
            replace hys := hys.later y
            replace l1 := l1.later y
            replace l7 := l7.later y
            replace hT := hT.later y
            replace S := S.later y
            obtain ⟨Y12, hZ⟩ : ∃ Z : Later W, Z.w = y.w := ⟨Y11.step (y), rfl⟩
            rw [← hZ] at S hys l1 l7 hT ⊢
            clear hZ
            clear y
            obtain ⟨gl, e0, j1, j2, j3, j4, fq, gq, j5, j6⟩ := hT.2.1.set (k := i) (by rw [HUL.out]; exact HIN.out) (ofL U i - 1)
            cases e0
            rw [nth_ofL] at gq
            rw [HUL.out] at j1
            have hinl : i < nl := by rw [j1]; exact HIN.out
            have HJ5 := Lib.hid j5
            have hgB : gl ≠ B1 := by omega
            have hgB' : B1 ≠ gl := by omega
            clear j4 j5 j6
            have hu := HUP.out i HIN.out
            by_cases hz : ofL U i = 0
            · rw [hz] at gq
              clear hz
              have q0_0 := l1.cell (k := 0) rfl
              have q0_1 := l1.cell (k := 1) rfl
              have q0_2 := l1.cell (k := 2) rfl
              have q0_l := l1.lt
              go_wp2_with fail
              clear q0_0 q0_1 q0_2 q0_l
              refine (Works_calls _).mono ?_
              rintro e w' ⟨rfl, y, rfl⟩
              go_wp2
              go_ret
              exact ⟨rfl, Y12.step y, rfl⟩
            · have e9 : IntKind.i64.wrap (ofL U i - 1) = ofL U i - 1 := IntWalk.i64_in _ (by omega)
              have hzb : (ofL U i == 0) = false := by simpa using hz
              have q0_0 := l1.cell (k := 0) rfl
              have q0_1 := l1.cell (k := 1) rfl
              have q0_2 := l1.cell (k := 2) rfl
              have q0_l := l1.lt
              have h22 : blowsE wn hn d (U.set i (ofL U i - 1)) = 22 := by
                have hul : i < U.length := by rw [HUL.out]; exact HIN.out
                obtain ⟨h1, h2⟩ := HM.out.flatBlows hs HV.out (bl := U.set i (ofL U i - 1)) (by rw [List.length_set, HUL.out]) (fun j hj => by rw [ofL_set _ _ _ _ hul]; have := HUP.out j hj; split <;> omega)
                rcases h1 with h1 | h1
                · have := h2 h1 i HIN.out
                  rw [ofL_set _ _ _ _ hul, if_pos rfl] at this
                  omega
                · exact h1
              have H22 := Lib.hid h22
              clear h22
              go_wp2_with fail
              obtain ⟨Z, hZ⟩ : ∃ Z : Later W, Z.w = (Y12.w.setCell ⟨gl, i, none⟩ (.int .i64 (ofL U i - 1))) := ⟨⟨_, Y12.le.setCell (p := ⟨gl, i, none⟩) (Nat.le_trans hlo9 j2) _⟩, rfl⟩
              have hl9 : Ints Z.w (.slice (some ⟨gl, 0, none⟩) nl cl) (U.set i (ofL U i - 1)) := by rw [hZ]; exact HJ5.out.ints (by rw [List.length_set, HUL.out]; omega)
              rw [j1] at hl9
              rw [← hZ]
              clear hZ HJ5 fq gq q0_0 q0_1 q0_2 q0_l
              refine (CheckBlows_calls wn hn _ _ d (U.set i (ofL U i - 1)) _ (hd.later Z) hl9).mono ?_
              rintro e w' ⟨rfl, y, rfl⟩
              rw [H22.out]
              go_wp2_with fail
              refine (Works_calls _).mono ?_
              rintro e w' ⟨rfl, y2, rfl⟩
              go_wp2
              go_ret
              exact ⟨rfl, (Z.step y).step y2, rfl⟩
theorem LLeastI_calls (w h m : Int) (h0 : 0 ≤ m) (hm255 : m ≤ 255) (dv bv : Value) (d ys : List Int) (W : World) (hd : Ints W dv d) (hys : I8s W bv ys) :
    Calls Try.prog 8 #[.agg #[.int .i64 w, .int .i64 h, dv], bv, .int .u8 m] W (Gives (.bool true) W) := by
  obtain ⟨k, rfl⟩ := Int.eq_ofNat_of_zero_le h0
  exact LLeast_calls w h k (by omega) dv bv d ys W hd hys
end Go.Proofs.Ytbjmfhlkmklmmaa
