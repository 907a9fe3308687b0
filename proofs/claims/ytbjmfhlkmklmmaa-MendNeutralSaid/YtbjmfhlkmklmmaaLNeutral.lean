import Derived.Test.YtbjmfhlkmklmmaaLUpon
/-  MendNeutral. -/
namespace Go.Proofs.Ytbjmfhlkmklmmaa
open Go.RowKit

/-- what the statement says of the neutral plate -/
theorem neut_laws {w h : Nat} (hs : sized w h) {n X Y Z u1 u2 : List Int} (hn : Neut w h n) (hXl : X.length = w * h) (hXr : ∀ j, j < w * h → 0 ≤ ofL X j ∧ ofL X j ≤ 3) (h1 : Ham w h (sumL X n) Y u1) (h2 : Ham w h (sumL Y n) Z u2) (hYr : ∀ j, j < w * h → 0 ≤ ofL Y j ∧ ofL Y j ≤ 3) (hZr : ∀ j, j < w * h → 0 ≤ ofL Z j) :
    vplate w h n = 0 ∧ burnE w h n = 0 ∧ backB w h n = true ∧ burnE w h X = 0 ∧ burnE w h Y = 0 ∧ backB w h Y = true ∧ Z = Y ∧ (backB w h X = true → Y = X) := by
  have vn : vplate w h n = 0 := vplate_of hs hn.len fun j hj => by have := hn.rg j hj; omega
  have fn : ∀ j, j < w * h → ofL n j ≤ 3 := fun j hj => (hn.rg j hj).2
  have vX : vplate w h X = 0 := vplate_of hs hXl fun j hj => by have := hXr j hj; omega
  have fX : ∀ j, j < w * h → ofL X j ≤ 3 := fun j hj => (hXr j hj).2
  have vY : vplate w h Y = 0 := vplate_of hs h1.lenX fun j hj => by have := hYr j hj; omega
  have ry : Sand.Rec (pl w h) (ofL Y) := by
    rw [sumL_comm (by rw [hXl, hn.len])] at h1
    exact rec_more hn.rc hn.len (fun j hj => (hXr j hj).1) h1 fun j hj => (hYr j hj).1
  refine ⟨vn, burnE_flat vn fn, (back_iff hs vn fn).2 hn.rc, burnE_flat vX fX, burnE_flat vY h1.flat, (back_iff hs vY h1.flat).2 ry, (neut_same hs hn ry h1.lenX h2 hZr).symm, fun hb => ?_⟩
  exact (neut_same hs hn ((back_iff hs vX fX).1 hb) hXl h1 fun j hj => (hYr j hj).1).symm
set_option maxRecDepth 100000 in
set_option maxHeartbeats 8000000 in
theorem LNeutral_calls (w h : Int) (dv : Value) (d : List Int) (W : World) (hd : Ints W dv d) :
    Calls Try.prog 12 #[.agg #[.int .i64 w, .int .i64 h, dv]] W (Gives (.bool true) W) := by
  have S : Ins W [] := Ins.nil _
  obtain ⟨a1, n1, c1, rfl⟩ : ∃ a n c, dv = .slice a n c := by obtain ⟨a, c, e⟩ := hd.form; exact ⟨a, _, c, e⟩
  have S := S.cons hd
  by_cases hv : vplate w h d = 0
  rotate_left
  · have hvb : (vplate w h d == 0) = false := by simpa using hv
    clear hv
    go_enter Try.func12, Try.ntmps12
    go_wp2_with fail
    obtain ⟨B1, hb⟩ : ∃ b, b = W.heap.size := ⟨_, rfl⟩
    have l1 : Lin (W.alloc (.cells #[.int .i64 w, .int .i64 h, .slice a1 n1 c1] 24)) B1 24 [.int .i64 w, .int .i64 h, .slice a1 n1 c1] := by rw [hb]; exact Lin.new _ _ [.int .i64 w, .int .i64 h, .slice a1 n1 c1]
    replace S := S.later (Later.new _ (.cells #[.int .i64 w, .int .i64 h, .slice a1 n1 c1] 24))
    rw [Later.new_w] at S
    have hsz : (W.alloc (.cells #[.int .i64 w, .int .i64 h, .slice a1 n1 c1] 24)).heap.size = B1 + 1 := by rw [hb]; simp
    obtain ⟨Y2, hZ⟩ : ∃ Z : Later W, Z.w = W.alloc (.cells #[.int .i64 w, .int .i64 h, .slice a1 n1 c1] 24) := ⟨Later.new _ _, rfl⟩
    rw [← hZ] at S hsz l1 ⊢
    clear hZ
    rw [← hb]
    clear hb
    clear hsz
    refine (fine_calls w h _ d _ (S.at (v := .slice a1 n1 c1) (xs := d) (by simp))).mono ?_
    rintro e w' ⟨rfl, y, rfl⟩
    rw [hvb]
    replace l1 := l1.later y
    replace S := S.later y
    obtain ⟨Y3, hZ⟩ : ∃ Z : Later W, Z.w = y.w := ⟨Y2.step (y), rfl⟩
    rw [← hZ] at S l1 ⊢
    clear hZ
    clear y
    have q0_0 := l1.cell (k := 0) rfl
    have q0_1 := l1.cell (k := 1) rfl
    have q0_2 := l1.cell (k := 2) rfl
    have q0_l := l1.lt
    go_wp2_with fail
    clear q0_0 q0_1 q0_2 q0_l
    refine (Works_calls _).mono ?_
    rintro e w' ⟨rfl, y, rfl⟩
    go_wp2
    go_ret
    exact ⟨rfl, Y3.step y, rfl⟩
  · obtain ⟨wn, hn, rfl, rfl, _⟩ := vplate_zero hv
    obtain ⟨hs, hl, hlo, hlow⟩ := valid_low hv
    obtain ⟨X, U, hm⟩ := ham_ex hs hl hlow
    have h36 : wn * hn ≤ 36 := Nat.mul_le_mul hs.2.1 hs.2.2.2
    have h1w : 1 ≤ wn * hn := Nat.mul_le_mul hs.1 hs.2.2.1
    have HV := Lib.hid hv
    have HL := Lib.hid hl
    have HLO := Lib.hid hlo
    have HLW := Lib.hid hlow
    have HM := Lib.hid hm
    have hvb : (vplate wn hn d == 0) = true := by rw [hv]; rfl
    have HN1 := Lib.hid (show n1 = d.length by obtain ⟨a, c, e⟩ := hd.form; cases e; rfl)
    clear hv hl hlo hlow hm
    go_enter Try.func12, Try.ntmps12
    go_wp2_with fail
    obtain ⟨B1, hb⟩ : ∃ b, b = W.heap.size := ⟨_, rfl⟩
    have l1 : Lin (W.alloc (.cells #[.int .i64 wn, .int .i64 hn, .slice a1 n1 c1] 24)) B1 24 [.int .i64 wn, .int .i64 hn, .slice a1 n1 c1] := by rw [hb]; exact Lin.new _ _ [.int .i64 wn, .int .i64 hn, .slice a1 n1 c1]
    replace S := S.later (Later.new _ (.cells #[.int .i64 wn, .int .i64 hn, .slice a1 n1 c1] 24))
    rw [Later.new_w] at S
    have hsz : (W.alloc (.cells #[.int .i64 wn, .int .i64 hn, .slice a1 n1 c1] 24)).heap.size = B1 + 1 := by rw [hb]; simp
    obtain ⟨Y2, hZ⟩ : ∃ Z : Later W, Z.w = W.alloc (.cells #[.int .i64 wn, .int .i64 hn, .slice a1 n1 c1] 24) := ⟨Later.new _ _, rfl⟩
    rw [← hZ] at S hsz l1 ⊢
    clear hZ
    rw [← hb]
    clear hb
    clear hsz
    refine (fine_calls wn hn _ d _ (S.at (v := .slice a1 n1 c1) (xs := d) (by simp))).mono ?_
    rintro e w' ⟨rfl, y, rfl⟩
    rw [hvb]
    clear hvb
    replace l1 := l1.later y
    replace S := S.later y
    obtain ⟨Y3, hZ⟩ : ∃ Z : Later W, Z.w = y.w := ⟨Y2.step (y), rfl⟩
    rw [← hZ] at S l1 ⊢
    clear hZ
    clear y
    obtain ⟨nE, nN⟩ := neut_ex hs
    obtain ⟨N, hN⟩ : ∃ N, neutL wn hn = N := ⟨_, rfl⟩
    rw [hN] at nN
    have rx := HM.out.range HLW.out
    have lXN := sumL_low (d := X) (q := N) HM.out.lenX (fun j hj => by have := rx j hj; omega) (fun j hj => by have := nN.rg j hj; omega)
    obtain ⟨Y, u1, m1⟩ := ham_ex hs (d := sumL X N) (by rw [sumL_len]; exact HM.out.lenX) lXN
    have ry := m1.range lXN
    have lYN := sumL_low (d := Y) (q := N) m1.lenX (fun j hj => by have := ry j hj; omega) (fun j hj => by have := nN.rg j hj; omega)
    obtain ⟨Z, u2, m2⟩ := ham_ex hs (d := sumL Y N) (by rw [sumL_len]; exact m1.lenX) lYN
    have rz := m2.range lYN
    obtain ⟨vn, en, bn, eX, eY, bY, rfl, hXY⟩ := neut_laws hs nN HM.out.lenX rx m1 m2 ry fun j hj => (rz j hj).1
    have vX := HM.out.vp hs HLW.out
    have vY := m1.vp hs lXN
    have K1 := Lib.hid m1
    have K2 := Lib.hid m2
    have VN := Lib.hid vn
    have EN := Lib.hid en
    have BN := Lib.hid bn
    have EX := Lib.hid eX
    have EY := Lib.hid eY
    have BY := Lib.hid bY
    have HXY := Lib.hid hXY
    have NE := Lib.hid nE
    have HN := Lib.hid hN
    have VX := Lib.hid vX
    have VY := Lib.hid vY
    have LXN := Lib.hid lXN
    have LYN := Lib.hid lYN
    obtain ⟨bx, hbx⟩ : ∃ b, backB wn hn X = b := ⟨_, rfl⟩
    rw [hbx] at HXY
    have HBX := Lib.hid hbx
    clear vn en bn eX eY bY hXY nE hN m1 m2 vX vY rx ry rz lXN lYN nN hbx
    have q0_0 := l1.cell (k := 0) rfl
    have q0_1 := l1.cell (k := 1) rfl
    have q0_2 := l1.cell (k := 2) rfl
    have q0_l := l1.lt
    go_wp2_with fail
    clear q0_0 q0_1 q0_2 q0_l
    refine (Neutral_calls wn hn _).mono ?_
    rintro e w' ⟨v, y, rfl, rfl, hR⟩
    rw [HN.out] at hR
    rw [NE.out]
    replace l1 := l1.later y
    replace S := S.later y
    obtain ⟨a4, n4, c4, rfl⟩ : ∃ a n c, v = .slice a n c := by obtain ⟨a, c, e⟩ := hR.form; exact ⟨a, _, c, e⟩
    replace S := S.cons hR
    obtain ⟨Y5, hZ⟩ : ∃ Z : Later W, Z.w = y.w := ⟨Y3.step (y), rfl⟩
    rw [← hZ] at S l1 ⊢
    clear hZ
    clear y hR
    have q0_0 := l1.cell (k := 0) rfl
    have q0_1 := l1.cell (k := 1) rfl
    have q0_2 := l1.cell (k := 2) rfl
    have q0_l := l1.lt
    go_wp2_with fail
    clear q0_0 q0_1 q0_2 q0_l
    obtain ⟨B6, hb⟩ : ∃ b, b = Y5.w.heap.size := ⟨_, rfl⟩
    have l6 : Lin (Y5.w.alloc (.cells #[.int .i64 wn, .int .i64 hn, .slice a4 n4 c4] 24)) B6 24 [.int .i64 wn, .int .i64 hn, .slice a4 n4 c4] := by rw [hb]; exact Lin.new _ _ [.int .i64 wn, .int .i64 hn, .slice a4 n4 c4]
    replace S := S.later (Later.new _ (.cells #[.int .i64 wn, .int .i64 hn, .slice a4 n4 c4] 24))
    rw [Later.new_w] at S
    replace l1 := l1.later (Later.new _ (.cells #[.int .i64 wn, .int .i64 hn, .slice a4 n4 c4] 24))
    rw [Later.new_w] at l1
    have hsz : (Y5.w.alloc (.cells #[.int .i64 wn, .int .i64 hn, .slice a4 n4 c4] 24)).heap.size = B6 + 1 := by rw [hb]; simp
    obtain ⟨Y7, hZ⟩ : ∃ Z : Later W, Z.w = Y5.w.alloc (.cells #[.int .i64 wn, .int .i64 hn, .slice a4 n4 c4] 24) := ⟨Y5.step (Later.new _ _), rfl⟩
    rw [← hZ] at S hsz l1 l6 ⊢
    clear hZ
    rw [← hb]
    clear hb
    clear hsz
    refine (refCheckPlate_calls wn hn _ N _ (S.at (v := .slice a4 n4 c4) (xs := N) (by simp))).mono ?_
    rintro e w' ⟨rfl, y, rfl⟩
    rw [VN.out]
    replace l1 := l1.later y
    replace l6 := l6.later y
    replace S := S.later y
    obtain ⟨Y8, hZ⟩ : ∃ Z : Later W, Z.w = y.w := ⟨Y7.step (y), rfl⟩
    rw [← hZ] at S l1 l6 ⊢
    clear hZ
    clear y
    have q0_0 := l1.cell (k := 0) rfl
    have q0_1 := l1.cell (k := 1) rfl
    have q0_2 := l1.cell (k := 2) rfl
    have q0_l := l1.lt
    go_wp2_with fail
    clear q0_0 q0_1 q0_2 q0_l
    refine (flat_calls wn hn _ d X U _ (S.at (v := .slice a1 n1 c1) (xs := d) (by simp)) HV.out HM.out).mono ?_
    rintro e w' ⟨v, u, y, rfl, rfl, hR, hU⟩
    replace l1 := l1.later y
    replace l6 := l6.later y
    replace S := S.later y
    obtain ⟨a9, n9, c9, rfl⟩ : ∃ a n c, v = .slice a n c := by obtain ⟨a, c, e⟩ := hR.form; exact ⟨a, _, c, e⟩
    replace S := S.cons hR
    obtain ⟨a10, n10, c10, rfl⟩ : ∃ a n c, u = .slice a n c := by obtain ⟨a, c, e⟩ := hU.form; exact ⟨a, _, c, e⟩
    replace S := S.cons hU
    obtain ⟨Y11, hZ⟩ : ∃ Z : Later W, Z.w = y.w := ⟨Y8.step (y), rfl⟩
    rw [← hZ] at S l1 l6 ⊢
    clear hZ
    clear y hR hU
    have q0_0 := l6.cell (k := 0) rfl
    have q0_1 := l6.cell (k := 1) rfl
    have q0_2 := l6.cell (k := 2) rfl
    have q0_l := l6.lt
    go_wp2_with fail
    clear q0_0 q0_1 q0_2 q0_l
    obtain ⟨B12, hb⟩ : ∃ b, b = Y11.w.heap.size := ⟨_, rfl⟩
    have l12 : Lin (Y11.w.alloc (.cells #[.int .i64 wn, .int .i64 hn, .slice a9 n9 c9] 24)) B12 24 [.int .i64 wn, .int .i64 hn, .slice a9 n9 c9] := by rw [hb]; exact Lin.new _ _ [.int .i64 wn, .int .i64 hn, .slice a9 n9 c9]
    replace S := S.later (Later.new _ (.cells #[.int .i64 wn, .int .i64 hn, .slice a9 n9 c9] 24))
    rw [Later.new_w] at S
    replace l1 := l1.later (Later.new _ (.cells #[.int .i64 wn, .int .i64 hn, .slice a9 n9 c9] 24))
    rw [Later.new_w] at l1
    replace l6 := l6.later (Later.new _ (.cells #[.int .i64 wn, .int .i64 hn, .slice a9 n9 c9] 24))
    rw [Later.new_w] at l6
    have hsz : (Y11.w.alloc (.cells #[.int .i64 wn, .int .i64 hn, .slice a9 n9 c9] 24)).heap.size = B12 + 1 := by rw [hb]; simp
    obtain ⟨Y13, hZ⟩ : ∃ Z : Later W, Z.w = Y11.w.alloc (.cells #[.int .i64 wn, .int .i64 hn, .slice a9 n9 c9] 24) := ⟨Y11.step (Later.new _ _), rfl⟩
    rw [← hZ] at S hsz l1 l6 l12 ⊢
    clear hZ
    rw [← hb]
    clear hb
    clear hsz
    refine (upon_calls wn hn _ _ X N Z u1 _ (S.at (v := .slice a9 n9 c9) (xs := X) (by simp)) (S.at (v := .slice a4 n4 c4) (xs := N) (by simp)) VX.out VN.out K1.out LXN.out).mono ?_
    rintro e w' ⟨v, y, rfl, rfl, hR⟩
    replace l1 := l1.later y
    replace l6 := l6.later y
    replace l12 := l12.later y
    replace S := S.later y
    obtain ⟨a14, n14, c14, rfl⟩ : ∃ a n c, v = .slice a n c := by obtain ⟨a, c, e⟩ := hR.form; exact ⟨a, _, c, e⟩
    replace S := S.cons hR
    obtain ⟨Y15, hZ⟩ : ∃ Z : Later W, Z.w = y.w := ⟨Y13.step (y), rfl⟩
    rw [← hZ] at S l1 l6 l12 ⊢
    clear hZ
    clear y hR
    have q0_0 := l6.cell (k := 0) rfl
    have q0_1 := l6.cell (k := 1) rfl
    have q0_2 := l6.cell (k := 2) rfl
    have q0_l := l6.lt
    go_wp2_with fail
    clear q0_0 q0_1 q0_2 q0_l
    obtain ⟨B16, hb⟩ : ∃ b, b = Y15.w.heap.size := ⟨_, rfl⟩
    have l16 : Lin (Y15.w.alloc (.cells #[.int .i64 wn, .int .i64 hn, .slice a14 n14 c14] 24)) B16 24 [.int .i64 wn, .int .i64 hn, .slice a14 n14 c14] := by rw [hb]; exact Lin.new _ _ [.int .i64 wn, .int .i64 hn, .slice a14 n14 c14]
    replace S := S.later (Later.new _ (.cells #[.int .i64 wn, .int .i64 hn, .slice a14 n14 c14] 24))
    rw [Later.new_w] at S
    replace l1 := l1.later (Later.new _ (.cells #[.int .i64 wn, .int .i64 hn, .slice a14 n14 c14] 24))
    rw [Later.new_w] at l1
    replace l6 := l6.later (Later.new _ (.cells #[.int .i64 wn, .int .i64 hn, .slice a14 n14 c14] 24))
    rw [Later.new_w] at l6
    replace l12 := l12.later (Later.new _ (.cells #[.int .i64 wn, .int .i64 hn, .slice a14 n14 c14] 24))
    rw [Later.new_w] at l12
    have hsz : (Y15.w.alloc (.cells #[.int .i64 wn, .int .i64 hn, .slice a14 n14 c14] 24)).heap.size = B16 + 1 := by rw [hb]; simp
    obtain ⟨Y17, hZ⟩ : ∃ Z : Later W, Z.w = Y15.w.alloc (.cells #[.int .i64 wn, .int .i64 hn, .slice a14 n14 c14] 24) := ⟨Y15.step (Later.new _ _), rfl⟩
    rw [← hZ] at S hsz l1 l6 l12 l16 ⊢
    clear hZ
    rw [← hb]
    clear hb
    clear hsz
    refine (upon_calls wn hn _ _ Z N Z u2 _ (S.at (v := .slice a14 n14 c14) (xs := Z) (by simp)) (S.at (v := .slice a4 n4 c4) (xs := N) (by simp)) VY.out VN.out K2.out LYN.out).mono ?_
    rintro e w' ⟨v, y, rfl, rfl, hR⟩
    replace l1 := l1.later y
    replace l6 := l6.later y
    replace l12 := l12.later y
    replace l16 := l16.later y
    replace S := S.later y
    obtain ⟨a18, n18, c18, rfl⟩ : ∃ a n c, v = .slice a n c := by obtain ⟨a, c, e⟩ := hR.form; exact ⟨a, _, c, e⟩
    replace S := S.cons hR
    obtain ⟨Y19, hZ⟩ : ∃ Z : Later W, Z.w = y.w := ⟨Y17.step (y), rfl⟩
    rw [← hZ] at S l1 l6 l12 l16 ⊢
    clear hZ
    clear y hR
    have q0_0 := l6.cell (k := 0) rfl
    have q0_1 := l6.cell (k := 1) rfl
    have q0_2 := l6.cell (k := 2) rfl
    have q0_l := l6.lt
    go_wp2_with fail
    clear q0_0 q0_1 q0_2 q0_l
    obtain ⟨B20, hb⟩ : ∃ b, b = Y19.w.heap.size := ⟨_, rfl⟩
    have l20 : Lin (Y19.w.alloc (.cells #[.int .i64 wn, .int .i64 hn, .slice a18 n18 c18] 24)) B20 24 [.int .i64 wn, .int .i64 hn, .slice a18 n18 c18] := by rw [hb]; exact Lin.new _ _ [.int .i64 wn, .int .i64 hn, .slice a18 n18 c18]
    replace S := S.later (Later.new _ (.cells #[.int .i64 wn, .int .i64 hn, .slice a18 n18 c18] 24))
    rw [Later.new_w] at S
    replace l1 := l1.later (Later.new _ (.cells #[.int .i64 wn, .int .i64 hn, .slice a18 n18 c18] 24))
    rw [Later.new_w] at l1
    replace l6 := l6.later (Later.new _ (.cells #[.int .i64 wn, .int .i64 hn, .slice a18 n18 c18] 24))
    rw [Later.new_w] at l6
    replace l12 := l12.later (Later.new _ (.cells #[.int .i64 wn, .int .i64 hn, .slice a18 n18 c18] 24))
    rw [Later.new_w] at l12
    replace l16 := l16.later (Later.new _ (.cells #[.int .i64 wn, .int .i64 hn, .slice a18 n18 c18] 24))
    rw [Later.new_w] at l16
    have hsz : (Y19.w.alloc (.cells #[.int .i64 wn, .int .i64 hn, .slice a18 n18 c18] 24)).heap.size = B20 + 1 := by rw [hb]; simp
    obtain ⟨Y21, hZ⟩ : ∃ Z : Later W, Z.w = Y19.w.alloc (.cells #[.int .i64 wn, .int .i64 hn, .slice a18 n18 c18] 24) := ⟨Y19.step (Later.new _ _), rfl⟩
    rw [← hZ] at S hsz l1 l6 l12 l16 l20 ⊢
    clear hZ
    rw [← hb]
    clear hb
    clear hsz
    refine (Back_calls wn hn _ N _ (S.at (v := .slice a4 n4 c4) (xs := N) (by simp))).mono ?_
    rintro e w' ⟨rfl, y, rfl⟩
    rw [BN.out, EN.out]
    replace l1 := l1.later y
    replace l6 := l6.later y
    replace l12 := l12.later y
    replace l16 := l16.later y
    replace l20 := l20.later y
    replace S := S.later y
    obtain ⟨Y22, hZ⟩ : ∃ Z : Later W, Z.w = y.w := ⟨Y21.step (y), rfl⟩
    rw [← hZ] at S l1 l6 l12 l16 l20 ⊢
    clear hZ
    clear y
    have q0_0 := l12.cell (k := 0) rfl
    have q0_1 := l12.cell (k := 1) rfl
    have q0_2 := l12.cell (k := 2) rfl
    have q0_l := l12.lt
    go_wp2_with fail
    clear q0_0 q0_1 q0_2 q0_l
    refine (Back_calls wn hn _ X _ (S.at (v := .slice a9 n9 c9) (xs := X) (by simp))).mono ?_
    rintro e w' ⟨rfl, y, rfl⟩
    rw [HBX.out, EX.out]
    replace l1 := l1.later y
    replace l6 := l6.later y
    replace l12 := l12.later y
    replace l16 := l16.later y
    replace l20 := l20.later y
    replace S := S.later y
    obtain ⟨Y23, hZ⟩ : ∃ Z : Later W, Z.w = y.w := ⟨Y22.step (y), rfl⟩
    rw [← hZ] at S l1 l6 l12 l16 l20 ⊢
    clear hZ
    clear y
    have q0_0 := l16.cell (k := 0) rfl
    have q0_1 := l16.cell (k := 1) rfl
    have q0_2 := l16.cell (k := 2) rfl
    have q0_l := l16.lt
    go_wp2_with fail
    clear q0_0 q0_1 q0_2 q0_l
    refine (Back_calls wn hn _ Z _ (S.at (v := .slice a14 n14 c14) (xs := Z) (by simp))).mono ?_
    rintro e w' ⟨rfl, y, rfl⟩
    rw [BY.out, EY.out]
    replace l1 := l1.later y
    replace l6 := l6.later y
    replace l12 := l12.later y
    replace l16 := l16.later y
    replace l20 := l20.later y
    replace S := S.later y
    obtain ⟨Y24, hZ⟩ : ∃ Z : Later W, Z.w = y.w := ⟨Y23.step (y), rfl⟩
    rw [← hZ] at S l1 l6 l12 l16 l20 ⊢
    clear hZ
    clear y
    cases bx
    rotate_left
    · obtain rfl := HXY.out rfl
      have q0_0 := l12.cell (k := 0) rfl
      have q0_1 := l12.cell (k := 1) rfl
      have q0_2 := l12.cell (k := 2) rfl
      have q0_l := l12.lt
      have q1_0 := l16.cell (k := 0) rfl
      have q1_1 := l16.cell (k := 1) rfl
      have q1_2 := l16.cell (k := 2) rfl
      have q1_l := l16.lt
      have q2_0 := l20.cell (k := 0) rfl
      have q2_1 := l20.cell (k := 1) rfl
      have q2_2 := l20.cell (k := 2) rfl
      have q2_l := l20.lt
      go_wp2_with fail
      clear q0_0 q0_1 q0_2 q0_l
      clear q1_0 q1_1 q1_2 q1_l
      clear q2_0 q2_1 q2_2 q2_l
      refine (Longs_calls _ _ Z Z _ (S.at (v := .slice a9 n9 c9) (xs := Z) (by simp)) (S.at (v := .slice a14 n14 c14) (xs := Z) (by simp))).mono ?_
      rintro e w' ⟨rfl, y, rfl⟩
      rw [eqI_self]
      replace l1 := l1.later y
      replace l6 := l6.later y
      replace l12 := l12.later y
      replace l16 := l16.later y
      replace l20 := l20.later y
      replace S := S.later y
      obtain ⟨Y25, hZ⟩ : ∃ Z : Later W, Z.w = y.w := ⟨Y24.step (y), rfl⟩
      rw [← hZ] at S l1 l6 l12 l16 l20 ⊢
      clear hZ
      clear y
      have q0_0 := l16.cell (k := 0) rfl
      have q0_1 := l16.cell (k := 1) rfl
      have q0_2 := l16.cell (k := 2) rfl
      have q0_l := l16.lt
      have q1_0 := l20.cell (k := 0) rfl
      have q1_1 := l20.cell (k := 1) rfl
      have q1_2 := l20.cell (k := 2) rfl
      have q1_l := l20.lt
      go_wp2_with fail
      clear q0_0 q0_1 q0_2 q0_l
      clear q1_0 q1_1 q1_2 q1_l
      refine (Longs_calls _ _ Z Z _ (S.at (v := .slice a14 n14 c14) (xs := Z) (by simp)) (S.at (v := .slice a18 n18 c18) (xs := Z) (by simp))).mono ?_
      rintro e w' ⟨rfl, y, rfl⟩
      rw [eqI_self]
      replace l1 := l1.later y
      replace l6 := l6.later y
      replace l12 := l12.later y
      replace l16 := l16.later y
      replace l20 := l20.later y
      replace S := S.later y
      obtain ⟨Y26, hZ⟩ : ∃ Z : Later W, Z.w = y.w := ⟨Y25.step (y), rfl⟩
      rw [← hZ] at S l1 l6 l12 l16 l20 ⊢
      clear hZ
      clear y
      go_wp2_with fail
      refine (Works_calls _).mono ?_
      rintro e w' ⟨rfl, y, rfl⟩
      go_wp2
      go_ret
      exact ⟨rfl, Y26.step y, rfl⟩
    · have q0_0 := l16.cell (k := 0) rfl
      have q0_1 := l16.cell (k := 1) rfl
      have q0_2 := l16.cell (k := 2) rfl
      have q0_l := l16.lt
      have q1_0 := l20.cell (k := 0) rfl
      have q1_1 := l20.cell (k := 1) rfl
      have q1_2 := l20.cell (k := 2) rfl
      have q1_l := l20.lt
      go_wp2_with fail
      clear q0_0 q0_1 q0_2 q0_l
      clear q1_0 q1_1 q1_2 q1_l
      refine (Longs_calls _ _ Z Z _ (S.at (v := .slice a14 n14 c14) (xs := Z) (by simp)) (S.at (v := .slice a18 n18 c18) (xs := Z) (by simp))).mono ?_
      rintro e w' ⟨rfl, y, rfl⟩
      rw [eqI_self]
      replace l1 := l1.later y
      replace l6 := l6.later y
      replace l12 := l12.later y
      replace l16 := l16.later y
      replace l20 := l20.later y
      replace S := S.later y
      obtain ⟨Y25, hZ⟩ : ∃ Z : Later W, Z.w = y.w := ⟨Y24.step (y), rfl⟩
      rw [← hZ] at S l1 l6 l12 l16 l20 ⊢
      clear hZ
      clear y
      go_wp2_with fail
      refine (Works_calls _).mono ?_
      rintro e w' ⟨rfl, y, rfl⟩
      go_wp2
      go_ret
      exact ⟨rfl, Y25.step y, rfl⟩
end Go.Proofs.Ytbjmfhlkmklmmaa
