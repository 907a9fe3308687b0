import Derived.Test.YtbjmfhlkmklmmaaWkP
import Derived.Test.YtbjmfhlkmklmmaaThA
/-  MendLost. -/
namespace Go.Proofs.Ytbjmfhlkmklmmaa
open Go.RowKit
set_option maxRecDepth 100000 in
set_option maxHeartbeats 8000000 in
theorem LLost_calls (w h : Int) (dv : Value) (d : List Int) (W : World) (hd : Ints W dv d) :
    Calls Try.prog 9 #[.agg #[.int .i64 w, .int .i64 h, dv]] W (Gives (.bool true) W) := by
  have S : Ins W [] := Ins.nil _
  obtain ⟨a1, n1, c1, rfl⟩ : ∃ a n c, dv = .slice a n c := by obtain ⟨a, c, e⟩ := hd.form; exact ⟨a, _, c, e⟩
  have S := S.cons hd
  by_cases hv : vplate w h d = 0
  rotate_left
  · have hvb : (vplate w h d == 0) = false := by simpa using hv
    clear hv
    go_enter Try.func9, Try.ntmps9
    go_wp2_with fail
    obtain ⟨B1, hb⟩ : ∃ b, b = W.heap.size := ⟨_, rfl⟩
    have l1 : Lin (W.alloc (.cells #[.int .i64 w, .int .i64 h, .slice a1 n1 c1] 24)) B1 24 [.int .i64 w, .int .i64 h, .slice a1 n1 c1] := by rw [hb]; exact Lin.new _ _ [.int .i64 w, .int .i64 h, .slice a1 n1 c1]
    replace S := S.later (Later.new _ (.cells #[.int .i64 w, .int .i64 h, .slice a1 n1 c1] 24))
    rw [Later.new_w] at S
    have hsz : (W.alloc (.cells #[.int .i64 w, .int .i64 h, .slice a1 n1 c1] 24)).heap.size = B1 + 1 := by rw [hb]; simp
    obtain ⟨Y2, hZ⟩ : ∃ Z : Later W, Z.w = W.alloc (.cells #[.int .i64 w, .int .i64 h, .slice a1 n1 c1] 24) := ⟨Later.new _ _, rfl⟩
    rw [← hZ] at S hsz l1 ⊢
    clear hZ
    rw [← hb]
    clear hb
    clear hsz
    refine (fine_calls w h _ d _ (S.at (v := .slice a1 n1 c1) (xs := d) (by simp))).mono ?_
    rintro e w' ⟨rfl, y, rfl⟩
    rw [hvb]
    replace l1 := l1.later y
    replace S := S.later y
    obtain ⟨Y3, hZ⟩ : ∃ Z : Later W, Z.w = y.w := ⟨Y2.step (y), rfl⟩
    rw [← hZ] at S l1 ⊢
    clear hZ
    clear y
    have q0_0 := l1.cell (k := 0) rfl
    have q0_1 := l1.cell (k := 1) rfl
    have q0_2 := l1.cell (k := 2) rfl
    have q0_l := l1.lt
    go_wp2_with fail
    clear q0_0 q0_1 q0_2 q0_l
    refine (Works_calls _).mono ?_
    rintro e w' ⟨rfl, y, rfl⟩
    go_wp2
    go_ret
    exact ⟨rfl, Y3.step y, rfl⟩
  · obtain ⟨wn, hn, rfl, rfl, _⟩ := vplate_zero hv
    obtain ⟨hs, hl, hlo, hlow⟩ := valid_low hv
    obtain ⟨X, U, hm⟩ := ham_ex hs hl hlow
    have h36 : wn * hn ≤ 36 := Nat.mul_le_mul hs.2.1 hs.2.2.2
    have h1w : 1 ≤ wn * hn := Nat.mul_le_mul hs.1 hs.2.2.1
    have HV := Lib.hid hv
    have HL := Lib.hid hl
    have HLO := Lib.hid hlo
    have HLW := Lib.hid hlow
    have HM := Lib.hid hm
    have hvb : (vplate wn hn d == 0) = true := by rw [hv]; rfl
    have HN1 := Lib.hid (show n1 = d.length by obtain ⟨a, c, e⟩ := hd.form; cases e; rfl)
    clear hv hl hlo hlow hm
    go_enter Try.func9, Try.ntmps9
    go_wp2_with fail
    obtain ⟨B1, hb⟩ : ∃ b, b = W.heap.size := ⟨_, rfl⟩
    have l1 : Lin (W.alloc (.cells #[.int .i64 wn, .int .i64 hn, .slice a1 n1 c1] 24)) B1 24 [.int .i64 wn, .int .i64 hn, .slice a1 n1 c1] := by rw [hb]; exact Lin.new _ _ [.int .i64 wn, .int .i64 hn, .slice a1 n1 c1]
    replace S := S.later (Later.new _ (.cells #[.int .i64 wn, .int .i64 hn, .slice a1 n1 c1] 24))
    rw [Later.new_w] at S
    have hsz : (W.alloc (.cells #[.int .i64 wn, .int .i64 hn, .slice a1 n1 c1] 24)).heap.size = B1 + 1 := by rw [hb]; simp
    obtain ⟨Y2, hZ⟩ : ∃ Z : Later W, Z.w = W.alloc (.cells #[.int .i64 wn, .int .i64 hn, .slice a1 n1 c1] 24) := ⟨Later.new _ _, rfl⟩
    rw [← hZ] at S hsz l1 ⊢
    clear hZ
    rw [← hb]
    clear hb
    clear hsz
    refine (fine_calls wn hn _ d _ (S.at (v := .slice a1 n1 c1) (xs := d) (by simp))).mono ?_
    rintro e w' ⟨rfl, y, rfl⟩
    rw [hvb]
    clear hvb
    replace l1 := l1.later y
    replace S := S.later y
    obtain ⟨Y3, hZ⟩ : ∃ Z : Later W, Z.w = y.w := ⟨Y2.step (y), rfl⟩
    rw [← hZ] at S l1 ⊢
    clear hZ
    clear y
    have q0_0 := l1.cell (k := 0) rfl
    have q0_1 := l1.cell (k := 1) rfl
    have q0_2 := l1.cell (k := 2) rfl
    have q0_l := l1.lt
    go_wp2_with fail
    clear q0_0 q0_1 q0_2 q0_l
    refine (flat_calls wn hn _ d X U _ (S.at (v := .slice a1 n1 c1) (xs := d) (by simp)) HV.out HM.out).mono ?_
    rintro e w' ⟨v, u, y, rfl, rfl, hR, hU⟩
    replace l1 := l1.later y
    replace S := S.later y
    obtain ⟨a4, n4, c4, rfl⟩ : ∃ a n c, v = .slice a n c := by obtain ⟨a, c, e⟩ := hR.form; exact ⟨a, _, c, e⟩
    replace S := S.cons hR
    obtain ⟨a5, n5, c5, rfl⟩ : ∃ a n c, u = .slice a n c := by obtain ⟨a, c, e⟩ := hU.form; exact ⟨a, _, c, e⟩
    replace S := S.cons hU
    obtain ⟨Y6, hZ⟩ : ∃ Z : Later W, Z.w = y.w := ⟨Y3.step (y), rfl⟩
    rw [← hZ] at S l1 ⊢
    clear hZ
    clear y hR hU
    have q0_0 := l1.cell (k := 0) rfl
    have q0_1 := l1.cell (k := 1) rfl
    have q0_2 := l1.cell (k := 2) rfl
    have q0_l := l1.lt
    go_wp2_with fail
    clear q0_0 q0_1 q0_2 q0_l
    obtain ⟨B7, hb⟩ : ∃ b, b = Y6.w.heap.size := ⟨_, rfl⟩
    have l7 : Lin (Y6.w.alloc (.cells #[.int .i64 wn, .int .i64 hn, .slice a4 n4 c4] 24)) B7 24 [.int .i64 wn, .int .i64 hn, .slice a4 n4 c4] := by rw [hb]; exact Lin.new _ _ [.int .i64 wn, .int .i64 hn, .slice a4 n4 c4]
    replace S := S.later (Later.new _ (.cells #[.int .i64 wn, .int .i64 hn, .slice a4 n4 c4] 24))
    rw [Later.new_w] at S
    replace l1 := l1.later (Later.new _ (.cells #[.int .i64 wn, .int .i64 hn, .slice a4 n4 c4] 24))
    rw [Later.new_w] at l1
    have hsz : (Y6.w.alloc (.cells #[.int .i64 wn, .int .i64 hn, .slice a4 n4 c4] 24)).heap.size = B7 + 1 := by rw [hb]; simp
    obtain ⟨Y8, hZ⟩ : ∃ Z : Later W, Z.w = Y6.w.alloc (.cells #[.int .i64 wn, .int .i64 hn, .slice a4 n4 c4] 24) := ⟨Y6.step (Later.new _ _), rfl⟩
    rw [← hZ] at S hsz l1 l7 ⊢
    clear hZ
    rw [← hb]
    clear hb
    clear hsz
    have HVX := Lib.hid (HM.out.vp hs HLW.out)
    have HID := Lib.hid (ham_id HM.out.lenX HM.out.flat)
    obtain ⟨hl1, hl2⟩ : lostN wn hn d = Sand.sum (wn * hn) (ofL d) - Sand.sum (wn * hn) (ofL X) ∧ lostN wn hn X = 0 := by
      constructor
      · rw [lostN, if_pos HV.out, (flat_of HV.out HM.out).1, HL.out, HM.out.lenX]
      · rw [lostN, if_pos HVX.out, (flat_of HVX.out HID.out).1, Int.sub_self]
    obtain ⟨LO, hLO⟩ : ∃ L, lostN wn hn d = L := ⟨_, rfl⟩
    rw [hLO] at hl1
    refine (Lost_calls wn hn _ d _ (S.at (v := .slice a1 n1 c1) (xs := d) (by simp))).mono ?_
    rintro e w' ⟨rfl, y, rfl⟩
    rw [HV.out, hLO]
    replace l1 := l1.later y
    replace l7 := l7.later y
    replace S := S.later y
    obtain ⟨Y9, hZ⟩ : ∃ Z : Later W, Z.w = y.w := ⟨Y8.step (y), rfl⟩
    rw [← hZ] at S l1 l7 ⊢
    clear hZ
    clear y
    have HLO1 := Lib.hid hl1
    clear hl1 hLO
    have q0_0 := l7.cell (k := 0) rfl
    have q0_1 := l7.cell (k := 1) rfl
    have q0_2 := l7.cell (k := 2) rfl
    have q0_l := l7.lt
    go_wp2_with fail
    clear q0_0 q0_1 q0_2 q0_l
    refine (flat_calls wn hn _ X X (List.replicate (wn * hn) 0) _ (S.at (v := .slice a4 n4 c4) (xs := X) (by simp)) HVX.out HID.out).mono ?_
    rintro e w' ⟨v, u, y, rfl, rfl, hR, hU⟩
    replace l1 := l1.later y
    replace l7 := l7.later y
    replace S := S.later y
    obtain ⟨a10, n10, c10, rfl⟩ : ∃ a n c, v = .slice a n c := by obtain ⟨a, c, e⟩ := hR.form; exact ⟨a, _, c, e⟩
    replace S := S.cons hR
    obtain ⟨a11, n11, c11, rfl⟩ : ∃ a n c, u = .slice a n c := by obtain ⟨a, c, e⟩ := hU.form; exact ⟨a, _, c, e⟩
    replace S := S.cons hU
    obtain ⟨Y12, hZ⟩ : ∃ Z : Later W, Z.w = y.w := ⟨Y9.step (y), rfl⟩
    rw [← hZ] at S l1 l7 ⊢
    clear hZ
    clear y hR hU
    have q0_0 := l7.cell (k := 0) rfl
    have q0_1 := l7.cell (k := 1) rfl
    have q0_2 := l7.cell (k := 2) rfl
    have q0_l := l7.lt
    go_wp2_with fail
    clear q0_0 q0_1 q0_2 q0_l
    obtain ⟨B13, hb⟩ : ∃ b, b = Y12.w.heap.size := ⟨_, rfl⟩
    have l13 : Lin (Y12.w.alloc (.cells #[.int .i64 wn, .int .i64 hn, .slice a10 n10 c10] 24)) B13 24 [.int .i64 wn, .int .i64 hn, .slice a10 n10 c10] := by rw [hb]; exact Lin.new _ _ [.int .i64 wn, .int .i64 hn, .slice a10 n10 c10]
    replace S := S.later (Later.new _ (.cells #[.int .i64 wn, .int .i64 hn, .slice a10 n10 c10] 24))
    rw [Later.new_w] at S
    replace l1 := l1.later (Later.new _ (.cells #[.int .i64 wn, .int .i64 hn, .slice a10 n10 c10] 24))
    rw [Later.new_w] at l1
    replace l7 := l7.later (Later.new _ (.cells #[.int .i64 wn, .int .i64 hn, .slice a10 n10 c10] 24))
    rw [Later.new_w] at l7
    have hsz : (Y12.w.alloc (.cells #[.int .i64 wn, .int .i64 hn, .slice a10 n10 c10] 24)).heap.size = B13 + 1 := by rw [hb]; simp
    obtain ⟨Y14, hZ⟩ : ∃ Z : Later W, Z.w = Y12.w.alloc (.cells #[.int .i64 wn, .int .i64 hn, .slice a10 n10 c10] 24) := ⟨Y12.step (Later.new _ _), rfl⟩
    rw [← hZ] at S hsz l1 l7 l13 ⊢
    clear hZ
    rw [← hb]
    clear hb
    clear hsz
    refine (Lost_calls wn hn _ X _ (S.at (v := .slice a4 n4 c4) (xs := X) (by simp))).mono ?_
    rintro e w' ⟨rfl, y, rfl⟩
    rw [HVX.out, hl2]
    clear hl2
    replace l1 := l1.later y
    replace l7 := l7.later y
    replace l13 := l13.later y
    replace S := S.later y
    obtain ⟨Y15, hZ⟩ : ∃ Z : Later W, Z.w = y.w := ⟨Y14.step (y), rfl⟩
    rw [← hZ] at S l1 l7 l13 ⊢
    clear hZ
    clear y
    have q0_0 := l7.cell (k := 0) rfl
    have q0_1 := l7.cell (k := 1) rfl
    have q0_2 := l7.cell (k := 2) rfl
    have q0_l := l7.lt
    have q1_0 := l13.cell (k := 0) rfl
    have q1_1 := l13.cell (k := 1) rfl
    have q1_2 := l13.cell (k := 2) rfl
    have q1_l := l13.lt
    go_wp2_with fail
    clear q0_0 q0_1 q0_2 q0_l
    clear q1_0 q1_1 q1_2 q1_l
    refine (Longs_calls _ _ X X _ (S.at (v := .slice a10 n10 c10) (xs := X) (by simp)) (S.at (v := .slice a4 n4 c4) (xs := X) (by simp))).mono ?_
    rintro e w' ⟨rfl, y, rfl⟩
    rw [eqI_self]
    replace l1 := l1.later y
    replace l7 := l7.later y
    replace l13 := l13.later y
    replace S := S.later y
    obtain ⟨Y16, hZ⟩ : ∃ Z : Later W, Z.w = y.w := ⟨Y15.step (y), rfl⟩
    rw [← hZ] at S l1 l7 l13 ⊢
    clear hZ
    clear y
    go_wp2_with fail
    refine (Sum_calls _ (List.replicate (wn * hn) 0) _ (S.at (v := .slice a11 n11 c11) (xs := (List.replicate (wn * hn) 0)) (by simp)) (by rw [List.length_replicate]; exact h36) (fun j hj => by rw [List.length_replicate] at hj; simp [ofL, hj])).mono ?_
    rintro e w' ⟨rfl, hw⟩
    rw [hw, List.length_replicate, sum_rep]
    clear hw w'
    have q0_0 := l1.cell (k := 0) rfl
    have q0_1 := l1.cell (k := 1) rfl
    have q0_2 := l1.cell (k := 2) rfl
    have q0_l := l1.lt
    have hUl : U.length = wn * hn := HM.out.lenU
    have HUL := Lib.hid hUl
    have HUP := Lib.hid (HM.out.upos hs HLW.out)
    have SU := (S.at (v := .slice a5 n5 c5) (xs := U) (by simp))
    obtain ⟨bu, ou, ku, e, hku, hbu, hgu⟩ := SU.at (k := 0) (by rw [hUl]; exact h1w)
    injection e with e1 e2 e3
    have HE := Lib.hid (And.intro e1 e2)
    have GU := Lib.hid hgu
    clear hgu SU
    have HT := Lib.hid (fun k (hk : k ≤ wn * hn) => term_bound (w := wn) (h := hn) (U := U) HUP.out k hk)
    go_wp2
    go_loopw [13, 14] (fun l i wr => ∃ (k : Nat) (V : Later Y16.w), wr = V.w ∧ k ≤ wn * hn ∧ i = .int .i64 k ∧ l = .int .i64 (Sand.sum k (fun i => ofL U i * (4 - (nb wn hn i).length)))) (fun _ i _ => wn * hn - (intOf i).toNat)
    case atStart => exact ⟨0, Later.self _, rfl, Nat.zero_le _, rfl, rfl⟩
    case round =>
      obtain ⟨k, V, rfl, hk, rfl, rfl⟩ := hrel
      have hnU : n5 = wn * hn := by rw [HE.out.2]; exact hUl
      by_cases hlt : k < wn * hn
      · have g1 := (V.cell hbu).trans (GU.out k (by rw [HUL.out]; exact hlt))
        have lbu := Nat.lt_of_lt_of_le hbu V.size
        rw [nth_ofL] at g1
        have kB0 := (V.cell q0_l).trans q0_0
        have kB1 := (V.cell q0_l).trans q0_1
        have lB := Nat.lt_of_lt_of_le q0_l V.size
        have hlen4 := nb_len wn hn k
        have hup := HUP.out k hlt
        obtain ⟨T, hT⟩ : ∃ T, Sand.sum k (fun i => ofL U i * (4 - (nb wn hn i).length)) = T := ⟨_, rfl⟩
        have hTb := HT.out k hk
        have hTs : Sand.sum (k + 1) (fun i => ofL U i * (4 - (nb wn hn i).length)) = T + ofL U k * (4 - (nb wn hn k).length) := by rw [Sand.sum, hT]
        rw [hT] at hTb ⊢
        have HTS := Lib.hid hTs
        obtain ⟨m, hm⟩ : ∃ m, (nb wn hn k).length = m := ⟨_, rfl⟩
        rw [hm] at hlen4 HTS
        have hlm : (nbI wn hn k).length = m := by rw [← hm]; simp [nbI]
        have hp1 : 0 ≤ ofL U k * (4 - (m : Int)) := Int.mul_nonneg hup.1 (by omega)
        have hp2 : ofL U k * (4 - (m : Int)) ≤ 348 * 4 := Int.mul_le_mul hup.2 (by omega) (by omega) (by omega)
        have e1 : IntKind.i64.wrap (4 - (m : Int)) = 4 - m := IntWalk.i64_in _ (by omega)
        have e2 : IntKind.i64.wrap (ofL U k * (4 - (m : Int))) = ofL U k * (4 - m) := IntWalk.i64_in _ (by omega)
        have e3 : IntKind.i64.wrap (T + ofL U k * (4 - (m : Int))) = T + ofL U k * (4 - m) := IntWalk.i64_in _ (by omega)
        have hBs := Lib.hid (fun (Z : World) => Beside_calls wn hn k hs hlt Z)
        clear hT hTs hTb hp1 hp2 hm hup hlen4
        have hkn : k < n5 := by omega
        rw [HE.out.1] at *
        go_wp2
        refine Mix.region_mixL (Mix.kinds [] [10] []) (by kernel_rfl) (by kernel_rfl) ?_
        repeat ((with_reducible refine Mix.atCons ?_); first | refine Mix.skipU (by rfl) rfl (by rfl) ?_ | (refine Mix.val rfl rfl (by rfl) (fun K hK => ?_); go_big_quiet_op; refine hK _ ?_; clear hK K))
        refine Mix.loud rfl (by rfl) (fun x1 K hK => ?_)
        go_wp2_with fail
        refine (hBs.out _).mono ?_
        rintro e w' ⟨lv, y1, rfl, rfl, hB⟩
        obtain ⟨al, cl, rfl⟩ := hB.form
        rw [hlm]
        refine hK _ y1 ?_
        clear hK K
        repeat ((with_reducible refine Mix.atCons ?_); first | refine Mix.skipU (by rfl) rfl (by rfl) ?_ | (refine Mix.val rfl rfl (by rfl) (fun K hK => ?_); go_big_quiet_op; refine hK _ ?_; clear hK K))
        refine Mix.done (fun x3 => ?_)
        go_wp2
        go_roundw
        case rel => exact ⟨k + 1, ((V.step x1).step y1).step x3, rfl, by omega, by go_num, by rw [HTS.out]⟩
        case measure => simp [intOf]; omega
      · obtain rfl : k = wn * hn := by omega
        clear q0_0 q0_1 q0_2 q0_l
        have hsum : Sand.sum (wn * hn) (fun i => ofL U i * (4 - (nb wn hn i).length)) = LO := by rw [HLO1.out]; exact (HM.out.lost hs).symm
        rw [hsum]
        clear hsum
        have tD : tame d 1000000 := fun j hj => by have := HLO.out j (by rw [← HL.out]; exact hj); omega
        have tX : tame X 1000000 := fun j hj => by have := HM.out.range HLW.out j (by rw [← HM.out.lenX]; exact hj); omega
        have lD : d.length ≤ 36 := by rw [HL.out]; exact h36
        have lX : X.length ≤ 36 := by rw [HM.out.lenX]; exact h36
        have bD := sum_tame lD tD
        have bX := sum_tame lX tX
        obtain ⟨SD, hSD⟩ : ∃ s, Sand.sum d.length (ofL d) = s := ⟨_, rfl⟩
        obtain ⟨SX, hSX⟩ : ∃ s, Sand.sum X.length (ofL X) = s := ⟨_, rfl⟩
        have hLS : LO = SD - SX := by rw [HLO1.out, ← hSD, ← hSX, HL.out, HM.out.lenX]
        rw [hSD] at bD
        rw [hSX] at bX
        have e1 : IntKind.i64.wrap (SD - SX) = LO := by rw [IntWalk.i64_in _ (by omega), hLS]
        have HSD := Lib.hid hSD
        have HSX := Lib.hid hSX
        clear hLS bD bX hSD hSX
        replace l1 := l1.later V
        replace l7 := l7.later V
        replace l13 := l13.later V
        replace S := S.later V
        obtain ⟨Y17, hZ⟩ : ∃ Z : Later W, Z.w = V.w := ⟨Y16.step (V), rfl⟩
        rw [← hZ] at S l1 l7 l13 ⊢
        clear hZ
        have q0_0 := l1.cell (k := 0) rfl
        have q0_1 := l1.cell (k := 1) rfl
        have q0_2 := l1.cell (k := 2) rfl
        have q0_l := l1.lt
        have q1_0 := l7.cell (k := 0) rfl
        have q1_1 := l7.cell (k := 1) rfl
        have q1_2 := l7.cell (k := 2) rfl
        have q1_l := l7.lt
        go_wp2
        refine Mix.region_mixL (Mix.kinds [] [7, 10, 15] []) (by kernel_rfl) (by kernel_rfl) ?_
        repeat ((with_reducible refine Mix.atCons ?_); first | refine Mix.skipU (by rfl) rfl (by rfl) ?_ | (refine Mix.val rfl rfl (by rfl) (fun K hK => ?_); go_big_quiet_op; refine hK _ ?_; clear hK K))
        refine Mix.loud rfl (by rfl) (fun x1 K hK => ?_)
        go_wp2_with fail
        refine (Sum_calls _ d _ ((S.at (v := .slice a1 n1 c1) (xs := d) (by simp)).later x1) lD tD).mono ?_
        rintro e w' ⟨rfl, hw⟩
        rw [hw]
        rw [HSD.out]
        refine hK _ (Later.self _) ?_
        clear hK K hw w'
        simp only [Later.self_w]
        repeat ((with_reducible refine Mix.atCons ?_); first | refine Mix.skipU (by rfl) rfl (by rfl) ?_ | (refine Mix.val rfl rfl (by rfl) (fun K hK => ?_); go_big_quiet_op; refine hK _ ?_; clear hK K))
        refine Mix.loud rfl (by rfl) (fun x2 K hK => ?_)
        go_wp2_with fail
        refine (Sum_calls _ X _ (((S.at (v := .slice a4 n4 c4) (xs := X) (by simp)).later x1).later x2) lX tX).mono ?_
        rintro e w' ⟨rfl, hw⟩
        rw [hw]
        rw [HSX.out]
        refine hK _ (Later.self _) ?_
        clear hK K hw w'
        simp only [Later.self_w]
        repeat ((with_reducible refine Mix.atCons ?_); first | refine Mix.skipU (by rfl) rfl (by rfl) ?_ | (refine Mix.val rfl rfl (by rfl) (fun K hK => ?_); go_big_quiet_op; refine hK _ ?_; clear hK K))
        refine Mix.loud rfl (by rfl) (fun x3 K hK => ?_)
        go_wp2_with fail
        refine (Works_calls _).mono ?_
        rintro e w' ⟨rfl, y3, rfl⟩
        refine hK _ y3 ?_
        clear hK K
        repeat ((with_reducible refine Mix.atCons ?_); first | refine Mix.skipU (by rfl) rfl (by rfl) ?_ | (refine Mix.val rfl rfl (by rfl) (fun K hK => ?_); go_big_quiet_op; refine hK _ ?_; clear hK K))
        refine Mix.done (fun x4 => ?_)
        clear q0_0 q0_1 q0_2 q0_l
        clear q1_0 q1_1 q1_2 q1_l
        replace l1 := (((((l1.later x1).later x2).later x3).later y3).later x4)
        replace l7 := (((((l7.later x1).later x2).later x3).later y3).later x4)
        replace l13 := (((((l13.later x1).later x2).later x3).later y3).later x4)
        replace S := (((((S.later x1).later x2).later x3).later y3).later x4)
        obtain ⟨Y18, hZ⟩ : ∃ Z : Later W, Z.w = x4.w := ⟨Y17.step (x1.step (x2.step (x3.step (y3.step (x4))))), rfl⟩
        rw [← hZ] at S l1 l7 l13 ⊢
        clear hZ
        go_wp2
        go_ret
        exact ⟨rfl, Y18, rfl⟩
end Go.Proofs.Ytbjmfhlkmklmmaa
