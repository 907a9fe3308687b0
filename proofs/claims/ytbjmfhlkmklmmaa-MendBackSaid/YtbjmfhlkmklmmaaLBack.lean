import Derived.Test.YtbjmfhlkmklmmaaLUpon
/-  MendBack. -/
namespace Go.Proofs.Ytbjmfhlkmklmmaa
open Go.RowKit

theorem Byts.one (w : World) (T : TypeId) {x : Int} (h : 0 ≤ x ∧ x ≤ 255) : Byts (w.alloc (.cells #[.int .u8 x] T)) (.slice (some ⟨w.heap.size, 0, none⟩) 1 1) [x] := by
  refine ⟨by simp, fun k hk => ?_, .inr ⟨w.heap.size, 0, 1, rfl, Nat.le_refl _, by simp, fun k hk => ?_⟩⟩
  · obtain rfl : k = 0 := by simpa using hk
    simpa [nth] using h
  · obtain rfl : k = 0 := by simpa using hk
    simp [nth]
theorem sized_three (n : Nat) : sizedL [3] 3 n = List.replicate n 3 := by
  refine ofL_ext (by rw [sizedL_len, List.length_replicate]) fun j hj => ?_
  rw [sizedL_len] at hj
  rw [ofL_sizedL _ _ hj, rep_at _ hj, sizedN, if_pos (by simp)]
  have : j % [(3 : Int)].length = 0 := Nat.mod_one j
  rw [this]; rfl
theorem three_back {w h : Nat} (hs : sized w h) : burnE w h (List.replicate (w * h) 3) = 0 ∧ backB w h (List.replicate (w * h) 3) = true := by
  have hv : vplate w h (List.replicate (w * h) 3) = 0 := vplate_of hs List.length_replicate fun j hj => by rw [rep_at _ hj]; omega
  have hf : ∀ j, j < w * h → ofL (List.replicate (w * h) 3) j ≤ 3 := fun j hj => by rw [rep_at _ hj]; exact Int.le_refl _
  exact ⟨burnE_flat hv hf, (back_iff hs hv hf).2 (three_rec hs)⟩
set_option maxRecDepth 100000 in
set_option maxHeartbeats 8000000 in
theorem LBack_calls (w h : Int) (dv bv1 : Value) (d ys : List Int) (W : World) (hd : Ints W dv d) (hy1 : Byts W bv1 ys) :
    Calls Try.prog 11 #[.agg #[.int .i64 w, .int .i64 h, dv], bv1] W (Gives (.bool true) W) := by
  have S : Ins W [] := Ins.nil _
  obtain ⟨a1, n1, c1, rfl⟩ : ∃ a n c, dv = .slice a n c := by obtain ⟨a, c, e⟩ := hd.form; exact ⟨a, _, c, e⟩
  have S := S.cons hd
  obtain ⟨a8, n8, c8, rfl⟩ : ∃ a n c, bv1 = .slice a n c := by obtain ⟨a, c, e⟩ := hy1.form; exact ⟨a, _, c, e⟩
  by_cases hv : vplate w h d = 0
  rotate_left
  · have hvb : (vplate w h d == 0) = false := by simpa using hv
    clear hv
    go_enter Try.func11, Try.ntmps11
    go_wp2_with fail
    obtain ⟨B1, hb⟩ : ∃ b, b = W.heap.size := ⟨_, rfl⟩
    have l1 : Lin (W.alloc (.cells #[.int .i64 w, .int .i64 h, .slice a1 n1 c1] 24)) B1 24 [.int .i64 w, .int .i64 h, .slice a1 n1 c1] := by rw [hb]; exact Lin.new _ _ [.int .i64 w, .int .i64 h, .slice a1 n1 c1]
    replace S := S.later (Later.new _ (.cells #[.int .i64 w, .int .i64 h, .slice a1 n1 c1] 24))
    rw [Later.new_w] at S
    replace hy1 := hy1.later (Later.new _ (.cells #[.int .i64 w, .int .i64 h, .slice a1 n1 c1] 24))
    rw [Later.new_w] at hy1
    have hsz : (W.alloc (.cells #[.int .i64 w, .int .i64 h, .slice a1 n1 c1] 24)).heap.size = B1 + 1 := by rw [hb]; simp
    obtain ⟨Y2, hZ⟩ : ∃ Z : Later W, Z.w = W.alloc (.cells #[.int .i64 w, .int .i64 h, .slice a1 n1 c1] 24) := ⟨Later.new _ _, rfl⟩
    rw [← hZ] at S hsz hy1 l1 ⊢
    clear hZ
    rw [← hb]
    clear hb
    clear hsz
    refine (fine_calls w h _ d _ (S.at (v := .slice a1 n1 c1) (xs := d) (by simp))).mono ?_
    rintro e w' ⟨rfl, y, rfl⟩
    rw [hvb]
    replace hy1 := hy1.later y
    replace l1 := l1.later y
    replace S := S.later y
    obtain ⟨Y3, hZ⟩ : ∃ Z : Later W, Z.w = y.w := ⟨Y2.step (y), rfl⟩
    rw [← hZ] at S hy1 l1 ⊢
    clear hZ
    clear y
    have q0_0 := l1.cell (k := 0) rfl
    have q0_1 := l1.cell (k := 1) rfl
    have q0_2 := l1.cell (k := 2) rfl
    have q0_l := l1.lt
    go_wp2_with fail
    clear q0_0 q0_1 q0_2 q0_l
    refine (Works_calls _).mono ?_
    rintro e w' ⟨rfl, y, rfl⟩
    go_wp2
    go_ret
    exact ⟨rfl, Y3.step y, rfl⟩
  · obtain ⟨wn, hn, rfl, rfl, _⟩ := vplate_zero hv
    obtain ⟨hs, hl, hlo, hlow⟩ := valid_low hv
    obtain ⟨X, U, hm⟩ := ham_ex hs hl hlow
    have h36 : wn * hn ≤ 36 := Nat.mul_le_mul hs.2.1 hs.2.2.2
    have h1w : 1 ≤ wn * hn := Nat.mul_le_mul hs.1 hs.2.2.1
    have HV := Lib.hid hv
    have HL := Lib.hid hl
    have HLO := Lib.hid hlo
    have HLW := Lib.hid hlow
    have HM := Lib.hid hm
    have hvb : (vplate wn hn d == 0) = true := by rw [hv]; rfl
    have HN1 := Lib.hid (show n1 = d.length by obtain ⟨a, c, e⟩ := hd.form; cases e; rfl)
    clear hv hl hlo hlow hm
    go_enter Try.func11, Try.ntmps11
    go_wp2_with fail
    obtain ⟨B1, hb⟩ : ∃ b, b = W.heap.size := ⟨_, rfl⟩
    have l1 : Lin (W.alloc (.cells #[.int .i64 wn, .int .i64 hn, .slice a1 n1 c1] 24)) B1 24 [.int .i64 wn, .int .i64 hn, .slice a1 n1 c1] := by rw [hb]; exact Lin.new _ _ [.int .i64 wn, .int .i64 hn, .slice a1 n1 c1]
    replace S := S.later (Later.new _ (.cells #[.int .i64 wn, .int .i64 hn, .slice a1 n1 c1] 24))
    rw [Later.new_w] at S
    replace hy1 := hy1.later (Later.new _ (.cells #[.int .i64 wn, .int .i64 hn, .slice a1 n1 c1] 24))
    rw [Later.new_w] at hy1
    have hsz : (W.alloc (.cells #[.int .i64 wn, .int .i64 hn, .slice a1 n1 c1] 24)).heap.size = B1 + 1 := by rw [hb]; simp
    obtain ⟨Y2, hZ⟩ : ∃ Z : Later W, Z.w = W.alloc (.cells #[.int .i64 wn, .int .i64 hn, .slice a1 n1 c1] 24) := ⟨Later.new _ _, rfl⟩
    rw [← hZ] at S hsz hy1 l1 ⊢
    clear hZ
    rw [← hb]
    clear hb
    clear hsz
    refine (fine_calls wn hn _ d _ (S.at (v := .slice a1 n1 c1) (xs := d) (by simp))).mono ?_
    rintro e w' ⟨rfl, y, rfl⟩
    rw [hvb]
    clear hvb
    replace hy1 := hy1.later y
    replace l1 := l1.later y
    replace S := S.later y
    obtain ⟨Y3, hZ⟩ : ∃ Z : Later W, Z.w = y.w := ⟨Y2.step (y), rfl⟩
    rw [← hZ] at S hy1 l1 ⊢
    clear hZ
    clear y
    by_cases h50 : 50 < n8
    · have q0_0 := l1.cell (k := 0) rfl
      have q0_1 := l1.cell (k := 1) rfl
      have q0_2 := l1.cell (k := 2) rfl
      have q0_l := l1.lt
      go_wp2_with fail
      clear q0_0 q0_1 q0_2 q0_l
      refine (Works_calls _).mono ?_
      rintro e w' ⟨rfl, y, rfl⟩
      go_wp2
      go_ret
      exact ⟨rfl, Y3.step y, rfl⟩
    · have HD36 := Lib.hid (show d.length ≤ 36 by rw [HL.out]; exact h36)
      have q0_0 := l1.cell (k := 0) rfl
      have q0_1 := l1.cell (k := 1) rfl
      have q0_2 := l1.cell (k := 2) rfl
      have q0_l := l1.lt
      go_wp2_with fail
      clear q0_0 q0_1 q0_2 q0_l
      clear h50
      refine (sized_calls wn hn _ _ d ys 30 (by omega) _ (S.at (v := .slice a1 n1 c1) (xs := d) (by simp)) hy1 HD36.out).mono ?_
      rintro e w' ⟨v, y, rfl, rfl, hR0⟩
      rw [HL.out] at hR0
      have hR := hR0.ints (by rw [sizedL_len]; omega)
      clear hR0
      replace hy1 := hy1.later y
      replace l1 := l1.later y
      replace S := S.later y
      obtain ⟨a4, n4, c4, rfl⟩ : ∃ a n c, v = .slice a n c := by obtain ⟨a, c, e⟩ := hR.form; exact ⟨a, _, c, e⟩
      replace S := S.cons hR
      obtain ⟨Y5, hZ⟩ : ∃ Z : Later W, Z.w = y.w := ⟨Y3.step (y), rfl⟩
      rw [← hZ] at S hy1 l1 ⊢
      clear hZ
      clear y hR
      obtain ⟨q, hqe⟩ : ∃ q, sizedL ys 30 (wn * hn) = q := ⟨_, rfl⟩
      have HVQ : Hid (vplate wn hn q = 0) := by rw [← hqe]; exact sized_vp hs ys (by omega)
      rw [hqe] at S
      clear hqe
      have lq1 := (valid_low HVQ.out)
      obtain ⟨Z, u1, m1⟩ := ham_ex hs (d := sumL d q) (by rw [sumL_len]; exact HL.out) (sumL_low HL.out HLO.out lq1.2.2.1)
      obtain ⟨X2, u2, m2⟩ := ham_ex hs (d := q) lq1.2.1 lq1.2.2.2
      have hSL := sumL_low HL.out HLO.out lq1.2.2.1
      have rx := HM.out.range HLW.out
      have ry := m2.range lq1.2.2.2
      have rz := m1.range hSL
      have vx := HM.out.vp hs HLW.out
      have vy := m2.vp hs lq1.2.2.2
      have vz := m1.vp hs hSL
      have E1 := Lib.hid (burnE_flat vx HM.out.flat)
      have E2 := Lib.hid (burnE_flat vy m2.flat)
      have E3 := Lib.hid (burnE_flat vz m1.flat)
      obtain ⟨ba, hba⟩ : ∃ b, backB wn hn X = b := ⟨_, rfl⟩
      obtain ⟨bb, hbb⟩ : ∃ b, backB wn hn X2 = b := ⟨_, rfl⟩
      obtain ⟨bc, hbc⟩ : ∃ b, backB wn hn Z = b := ⟨_, rfl⟩
      have i1 : ba = true → bc = true := fun h => by
        rw [← hba, back_iff hs vx HM.out.flat] at h
        rw [← hbc, back_iff hs vz m1.flat]
        obtain ⟨C, u3, m3⟩ := ham_ex hs (d := sumL X q) (by rw [sumL_len]; exact HM.out.lenX) (sumL_low HM.out.lenX (fun j hj => by have := rx j hj; omega) lq1.2.2.1)
        have e := (Ham.upon HM.out.run (fun j hj => (lq1.2.2.1 j hj).1) m3).unique m1
        rw [← e.1]
        exact rec_more h HM.out.lenX (fun j hj => (lq1.2.2.1 j hj).1) m3 fun j hj => by rw [e.1]; exact (rz j hj).1
      have i2 : bb = true → bc = true := fun h => by
        rw [← hbb, back_iff hs vy m2.flat] at h
        rw [← hbc, back_iff hs vz m1.flat]
        obtain ⟨C, u3, m3⟩ := ham_ex hs (d := sumL X2 d) (by rw [sumL_len]; exact m2.lenX) (sumL_low m2.lenX (fun j hj => by have := ry j hj; omega) HLO.out)
        have e := (Ham.upon m2.run (fun j hj => (HLO.out j hj).1) m3)
        rw [sumL_comm (by rw [lq1.2.1, HL.out])] at e
        have e := e.unique m1
        rw [← e.1]
        exact rec_more h m2.lenX (fun j hj => (HLO.out j hj).1) m3 fun j hj => by rw [e.1]; exact (rz j hj).1
      have i3 : ba = true → ∀ i, i < wn * hn → ∀ n ∈ nb wn hn i, ofL X i = 0 → ofL X n = 0 → False := fun h i hi n hn h1 h2 => by
        rw [← hba, back_iff hs vx HM.out.flat] at h
        exact rec_zero hs h hi hn h1 h2
      have i4 : ((burnK wn hn X).length == X.length) = ba := by rw [← hba, backB, E1.out]; rfl
      have K1 := Lib.hid m1
      have K2 := Lib.hid m2
      have HBA := Lib.hid hba
      have HBB := Lib.hid hbb
      have HBC := Lib.hid hbc
      have I1 := Lib.hid i1
      have I2 := Lib.hid i2
      have I3 := Lib.hid i3
      have I4 := Lib.hid i4
      have HSL := Lib.hid hSL
      clear m1 m2 hba hbb hbc i1 i2 i3 i4 lq1 hSL rx ry rz vx vy vz
      have q0_0 := l1.cell (k := 0) rfl
      have q0_1 := l1.cell (k := 1) rfl
      have q0_2 := l1.cell (k := 2) rfl
      have q0_l := l1.lt
      go_wp2_with fail
      clear q0_0 q0_1 q0_2 q0_l
      obtain ⟨B6, hb⟩ : ∃ b, b = Y5.w.heap.size := ⟨_, rfl⟩
      have l6 : Lin (Y5.w.alloc (.cells #[.int .i64 wn, .int .i64 hn, .slice a4 n4 c4] 24)) B6 24 [.int .i64 wn, .int .i64 hn, .slice a4 n4 c4] := by rw [hb]; exact Lin.new _ _ [.int .i64 wn, .int .i64 hn, .slice a4 n4 c4]
      replace S := S.later (Later.new _ (.cells #[.int .i64 wn, .int .i64 hn, .slice a4 n4 c4] 24))
      rw [Later.new_w] at S
      replace hy1 := hy1.later (Later.new _ (.cells #[.int .i64 wn, .int .i64 hn, .slice a4 n4 c4] 24))
      rw [Later.new_w] at hy1
      replace l1 := l1.later (Later.new _ (.cells #[.int .i64 wn, .int .i64 hn, .slice a4 n4 c4] 24))
      rw [Later.new_w] at l1
      have hsz : (Y5.w.alloc (.cells #[.int .i64 wn, .int .i64 hn, .slice a4 n4 c4] 24)).heap.size = B6 + 1 := by rw [hb]; simp
      obtain ⟨Y7, hZ⟩ : ∃ Z : Later W, Z.w = Y5.w.alloc (.cells #[.int .i64 wn, .int .i64 hn, .slice a4 n4 c4] 24) := ⟨Y5.step (Later.new _ _), rfl⟩
      rw [← hZ] at S hsz hy1 l1 l6 ⊢
      clear hZ
      rw [← hb]
      clear hb
      clear hsz
      refine (flat_calls wn hn _ d X U _ (S.at (v := .slice a1 n1 c1) (xs := d) (by simp)) HV.out HM.out).mono ?_
      rintro e w' ⟨v, u, y, rfl, rfl, hR, hU⟩
      replace hy1 := hy1.later y
      replace l1 := l1.later y
      replace l6 := l6.later y
      replace S := S.later y
      obtain ⟨a8, n8, c8, rfl⟩ : ∃ a n c, v = .slice a n c := by obtain ⟨a, c, e⟩ := hR.form; exact ⟨a, _, c, e⟩
      replace S := S.cons hR
      obtain ⟨a9, n9, c9, rfl⟩ : ∃ a n c, u = .slice a n c := by obtain ⟨a, c, e⟩ := hU.form; exact ⟨a, _, c, e⟩
      replace S := S.cons hU
      obtain ⟨Y10, hZ⟩ : ∃ Z : Later W, Z.w = y.w := ⟨Y7.step (y), rfl⟩
      rw [← hZ] at S hy1 l1 l6 ⊢
      clear hZ
      clear y hR hU
      have q0_0 := l6.cell (k := 0) rfl
      have q0_1 := l6.cell (k := 1) rfl
      have q0_2 := l6.cell (k := 2) rfl
      have q0_l := l6.lt
      go_wp2_with fail
      clear q0_0 q0_1 q0_2 q0_l
      obtain ⟨B11, hb⟩ : ∃ b, b = Y10.w.heap.size := ⟨_, rfl⟩
      have l11 : Lin (Y10.w.alloc (.cells #[.int .i64 wn, .int .i64 hn, .slice a8 n8 c8] 24)) B11 24 [.int .i64 wn, .int .i64 hn, .slice a8 n8 c8] := by rw [hb]; exact Lin.new _ _ [.int .i64 wn, .int .i64 hn, .slice a8 n8 c8]
      replace S := S.later (Later.new _ (.cells #[.int .i64 wn, .int .i64 hn, .slice a8 n8 c8] 24))
      rw [Later.new_w] at S
      replace hy1 := hy1.later (Later.new _ (.cells #[.int .i64 wn, .int .i64 hn, .slice a8 n8 c8] 24))
      rw [Later.new_w] at hy1
      replace l1 := l1.later (Later.new _ (.cells #[.int .i64 wn, .int .i64 hn, .slice a8 n8 c8] 24))
      rw [Later.new_w] at l1
      replace l6 := l6.later (Later.new _ (.cells #[.int .i64 wn, .int .i64 hn, .slice a8 n8 c8] 24))
      rw [Later.new_w] at l6
      have hsz : (Y10.w.alloc (.cells #[.int .i64 wn, .int .i64 hn, .slice a8 n8 c8] 24)).heap.size = B11 + 1 := by rw [hb]; simp
      obtain ⟨Y12, hZ⟩ : ∃ Z : Later W, Z.w = Y10.w.alloc (.cells #[.int .i64 wn, .int .i64 hn, .slice a8 n8 c8] 24) := ⟨Y10.step (Later.new _ _), rfl⟩
      rw [← hZ] at S hsz hy1 l1 l6 l11 ⊢
      clear hZ
      rw [← hb]
      clear hb
      clear hsz
      refine (flat_calls wn hn _ q X2 u2 _ (S.at (v := .slice a4 n4 c4) (xs := q) (by simp)) HVQ.out K2.out).mono ?_
      rintro e w' ⟨v, u, y, rfl, rfl, hR, hU⟩
      replace hy1 := hy1.later y
      replace l1 := l1.later y
      replace l6 := l6.later y
      replace l11 := l11.later y
      replace S := S.later y
      obtain ⟨a13, n13, c13, rfl⟩ : ∃ a n c, v = .slice a n c := by obtain ⟨a, c, e⟩ := hR.form; exact ⟨a, _, c, e⟩
      replace S := S.cons hR
      obtain ⟨a14, n14, c14, rfl⟩ : ∃ a n c, u = .slice a n c := by obtain ⟨a, c, e⟩ := hU.form; exact ⟨a, _, c, e⟩
      replace S := S.cons hU
      obtain ⟨Y15, hZ⟩ : ∃ Z : Later W, Z.w = y.w := ⟨Y12.step (y), rfl⟩
      rw [← hZ] at S hy1 l1 l6 l11 ⊢
      clear hZ
      clear y hR hU
      have q0_0 := l1.cell (k := 0) rfl
      have q0_1 := l1.cell (k := 1) rfl
      have q0_2 := l1.cell (k := 2) rfl
      have q0_l := l1.lt
      have q1_0 := l6.cell (k := 0) rfl
      have q1_1 := l6.cell (k := 1) rfl
      have q1_2 := l6.cell (k := 2) rfl
      have q1_l := l6.lt
      go_wp2_with fail
      clear q0_0 q0_1 q0_2 q0_l
      clear q1_0 q1_1 q1_2 q1_l
      obtain ⟨B16, hb⟩ : ∃ b, b = Y15.w.heap.size := ⟨_, rfl⟩
      have l16 : Lin (Y15.w.alloc (.cells #[.int .i64 wn, .int .i64 hn, .slice a13 n13 c13] 24)) B16 24 [.int .i64 wn, .int .i64 hn, .slice a13 n13 c13] := by rw [hb]; exact Lin.new _ _ [.int .i64 wn, .int .i64 hn, .slice a13 n13 c13]
      replace S := S.later (Later.new _ (.cells #[.int .i64 wn, .int .i64 hn, .slice a13 n13 c13] 24))
      rw [Later.new_w] at S
      replace hy1 := hy1.later (Later.new _ (.cells #[.int .i64 wn, .int .i64 hn, .slice a13 n13 c13] 24))
      rw [Later.new_w] at hy1
      replace l1 := l1.later (Later.new _ (.cells #[.int .i64 wn, .int .i64 hn, .slice a13 n13 c13] 24))
      rw [Later.new_w] at l1
      replace l6 := l6.later (Later.new _ (.cells #[.int .i64 wn, .int .i64 hn, .slice a13 n13 c13] 24))
      rw [Later.new_w] at l6
      replace l11 := l11.later (Later.new _ (.cells #[.int .i64 wn, .int .i64 hn, .slice a13 n13 c13] 24))
      rw [Later.new_w] at l11
      have hsz : (Y15.w.alloc (.cells #[.int .i64 wn, .int .i64 hn, .slice a13 n13 c13] 24)).heap.size = B16 + 1 := by rw [hb]; simp
      obtain ⟨Y17, hZ⟩ : ∃ Z : Later W, Z.w = Y15.w.alloc (.cells #[.int .i64 wn, .int .i64 hn, .slice a13 n13 c13] 24) := ⟨Y15.step (Later.new _ _), rfl⟩
      rw [← hZ] at S hsz hy1 l1 l6 l11 l16 ⊢
      clear hZ
      rw [← hb]
      clear hb
      clear hsz
      refine (upon_calls wn hn _ _ d q Z u1 _ (S.at (v := .slice a1 n1 c1) (xs := d) (by simp)) (S.at (v := .slice a4 n4 c4) (xs := q) (by simp)) HV.out HVQ.out K1.out HSL.out).mono ?_
      rintro e w' ⟨v, y, rfl, rfl, hR⟩
      replace hy1 := hy1.later y
      replace l1 := l1.later y
      replace l6 := l6.later y
      replace l11 := l11.later y
      replace l16 := l16.later y
      replace S := S.later y
      obtain ⟨a18, n18, c18, rfl⟩ : ∃ a n c, v = .slice a n c := by obtain ⟨a, c, e⟩ := hR.form; exact ⟨a, _, c, e⟩
      replace S := S.cons hR
      obtain ⟨Y19, hZ⟩ : ∃ Z : Later W, Z.w = y.w := ⟨Y17.step (y), rfl⟩
      rw [← hZ] at S hy1 l1 l6 l11 l16 ⊢
      clear hZ
      clear y hR
      have q0_0 := l11.cell (k := 0) rfl
      have q0_1 := l11.cell (k := 1) rfl
      have q0_2 := l11.cell (k := 2) rfl
      have q0_l := l11.lt
      go_wp2_with fail
      clear q0_0 q0_1 q0_2 q0_l
      obtain ⟨B20, hb⟩ : ∃ b, b = Y19.w.heap.size := ⟨_, rfl⟩
      have l20 : Lin (Y19.w.alloc (.cells #[.int .i64 wn, .int .i64 hn, .slice a18 n18 c18] 24)) B20 24 [.int .i64 wn, .int .i64 hn, .slice a18 n18 c18] := by rw [hb]; exact Lin.new _ _ [.int .i64 wn, .int .i64 hn, .slice a18 n18 c18]
      replace S := S.later (Later.new _ (.cells #[.int .i64 wn, .int .i64 hn, .slice a18 n18 c18] 24))
      rw [Later.new_w] at S
      replace hy1 := hy1.later (Later.new _ (.cells #[.int .i64 wn, .int .i64 hn, .slice a18 n18 c18] 24))
      rw [Later.new_w] at hy1
      replace l1 := l1.later (Later.new _ (.cells #[.int .i64 wn, .int .i64 hn, .slice a18 n18 c18] 24))
      rw [Later.new_w] at l1
      replace l6 := l6.later (Later.new _ (.cells #[.int .i64 wn, .int .i64 hn, .slice a18 n18 c18] 24))
      rw [Later.new_w] at l6
      replace l11 := l11.later (Later.new _ (.cells #[.int .i64 wn, .int .i64 hn, .slice a18 n18 c18] 24))
      rw [Later.new_w] at l11
      replace l16 := l16.later (Later.new _ (.cells #[.int .i64 wn, .int .i64 hn, .slice a18 n18 c18] 24))
      rw [Later.new_w] at l16
      have hsz : (Y19.w.alloc (.cells #[.int .i64 wn, .int .i64 hn, .slice a18 n18 c18] 24)).heap.size = B20 + 1 := by rw [hb]; simp
      obtain ⟨Y21, hZ⟩ : ∃ Z : Later W, Z.w = Y19.w.alloc (.cells #[.int .i64 wn, .int .i64 hn, .slice a18 n18 c18] 24) := ⟨Y19.step (Later.new _ _), rfl⟩
      rw [← hZ] at S hsz hy1 l1 l6 l11 l16 l20 ⊢
      clear hZ
      rw [← hb]
      clear hb
      clear hsz
      refine (Back_calls wn hn _ X _ (S.at (v := .slice a8 n8 c8) (xs := X) (by simp))).mono ?_
      rintro e w' ⟨rfl, y, rfl⟩
      rw [HBA.out, E1.out]
      replace hy1 := hy1.later y
      replace l1 := l1.later y
      replace l6 := l6.later y
      replace l11 := l11.later y
      replace l16 := l16.later y
      replace l20 := l20.later y
      replace S := S.later y
      obtain ⟨Y22, hZ⟩ : ∃ Z : Later W, Z.w = y.w := ⟨Y21.step (y), rfl⟩
      rw [← hZ] at S hy1 l1 l6 l11 l16 l20 ⊢
      clear hZ
      clear y
      have q0_0 := l16.cell (k := 0) rfl
      have q0_1 := l16.cell (k := 1) rfl
      have q0_2 := l16.cell (k := 2) rfl
      have q0_l := l16.lt
      go_wp2_with fail
      clear q0_0 q0_1 q0_2 q0_l
      refine (Back_calls wn hn _ X2 _ (S.at (v := .slice a13 n13 c13) (xs := X2) (by simp))).mono ?_
      rintro e w' ⟨rfl, y, rfl⟩
      rw [HBB.out, E2.out]
      replace hy1 := hy1.later y
      replace l1 := l1.later y
      replace l6 := l6.later y
      replace l11 := l11.later y
      replace l16 := l16.later y
      replace l20 := l20.later y
      replace S := S.later y
      obtain ⟨Y23, hZ⟩ : ∃ Z : Later W, Z.w = y.w := ⟨Y22.step (y), rfl⟩
      rw [← hZ] at S hy1 l1 l6 l11 l16 l20 ⊢
      clear hZ
      clear y
      have q0_0 := l20.cell (k := 0) rfl
      have q0_1 := l20.cell (k := 1) rfl
      have q0_2 := l20.cell (k := 2) rfl
      have q0_l := l20.lt
      go_wp2_with fail
      clear q0_0 q0_1 q0_2 q0_l
      refine (Back_calls wn hn _ Z _ (S.at (v := .slice a18 n18 c18) (xs := Z) (by simp))).mono ?_
      rintro e w' ⟨rfl, y, rfl⟩
      rw [HBC.out, E3.out]
      replace hy1 := hy1.later y
      replace l1 := l1.later y
      replace l6 := l6.later y
      replace l11 := l11.later y
      replace l16 := l16.later y
      replace l20 := l20.later y
      replace S := S.later y
      obtain ⟨Y24, hZ⟩ : ∃ Z : Later W, Z.w = y.w := ⟨Y23.step (y), rfl⟩
      rw [← hZ] at S hy1 l1 l6 l11 l16 l20 ⊢
      clear hZ
      clear y
      have q0_0 := l1.cell (k := 0) rfl
      have q0_1 := l1.cell (k := 1) rfl
      have q0_2 := l1.cell (k := 2) rfl
      have q0_l := l1.lt
      go_wp2_with fail
      clear q0_0 q0_1 q0_2 q0_l
      have hy3 := Byts.one Y24.w 5 (x := 3) (by omega)
      obtain ⟨b3, hb3⟩ : ∃ b, b = Y24.w.heap.size := ⟨_, rfl⟩
      rw [← hb3] at hy3 ⊢
      replace hy1 := hy1.later (Later.new _ (.cells #[.int .u8 3] 5))
      rw [Later.new_w] at hy1
      replace l1 := l1.later (Later.new _ (.cells #[.int .u8 3] 5))
      rw [Later.new_w] at l1
      replace l6 := l6.later (Later.new _ (.cells #[.int .u8 3] 5))
      rw [Later.new_w] at l6
      replace l11 := l11.later (Later.new _ (.cells #[.int .u8 3] 5))
      rw [Later.new_w] at l11
      replace l16 := l16.later (Later.new _ (.cells #[.int .u8 3] 5))
      rw [Later.new_w] at l16
      replace l20 := l20.later (Later.new _ (.cells #[.int .u8 3] 5))
      rw [Later.new_w] at l20
      replace S := S.later (Later.new _ (.cells #[.int .u8 3] 5))
      rw [Later.new_w] at S
      obtain ⟨Y25, hZ⟩ : ∃ Z : Later W, Z.w = Y24.w.alloc (.cells #[.int .u8 3] 5) := ⟨Y24.step (Later.new _ _), rfl⟩
      rw [← hZ] at S hy1 l1 l6 l11 l16 l20 hy3 ⊢
      clear hZ
      clear hb3
      refine (sized_calls wn hn _ _ d [3] 3 (by omega) _ (S.at (v := .slice a1 n1 c1) (xs := d) (by simp)) hy3 HD36.out).mono ?_
      rintro e w' ⟨v, y, rfl, rfl, hR0⟩
      rw [HL.out] at hR0
      have hR := hR0.ints (by rw [sizedL_len]; omega)
      rw [sized_three] at hR
      clear hR0
      replace hy1 := hy1.later y
      replace l1 := l1.later y
      replace l6 := l6.later y
      replace l11 := l11.later y
      replace l16 := l16.later y
      replace l20 := l20.later y
      replace hy3 := hy3.later y
      replace S := S.later y
      obtain ⟨a26, n26, c26, rfl⟩ : ∃ a n c, v = .slice a n c := by obtain ⟨a, c, e⟩ := hR.form; exact ⟨a, _, c, e⟩
      replace S := S.cons hR
      obtain ⟨Y27, hZ⟩ : ∃ Z : Later W, Z.w = y.w := ⟨Y25.step (y), rfl⟩
      rw [← hZ] at S hy1 l1 l6 l11 l16 l20 hy3 ⊢
      clear hZ
      clear y hR
      have H3 := Lib.hid (three_back hs)
      go_wp2_with fail
      refine (Back_calls wn hn _ (List.replicate (wn * hn) 3) _ (S.at (v := .slice a26 n26 c26) (xs := (List.replicate (wn * hn) 3)) (by simp))).mono ?_
      rintro e w' ⟨rfl, y, rfl⟩
      rw [H3.out.2, H3.out.1]
      replace hy1 := hy1.later y
      replace l1 := l1.later y
      replace l6 := l6.later y
      replace l11 := l11.later y
      replace l16 := l16.later y
      replace l20 := l20.later y
      replace hy3 := hy3.later y
      replace S := S.later y
      obtain ⟨Y28, hZ⟩ : ∃ Z : Later W, Z.w = y.w := ⟨Y27.step (y), rfl⟩
      rw [← hZ] at S hy1 l1 l6 l11 l16 l20 hy3 ⊢
      clear hZ
      clear y
      have i1 := I1.out
      have i2 := I2.out
      clear I1 I2
      cases ba
      rotate_left
      · obtain rfl : bc = true := i1 rfl
        clear i1 i2
        have q0_0 := l11.cell (k := 0) rfl
        have q0_1 := l11.cell (k := 1) rfl
        have q0_2 := l11.cell (k := 2) rfl
        have q0_l := l11.lt
        go_wp2_with fail
        clear q0_0 q0_1 q0_2 q0_l
        refine (Burn_calls wn hn _ X _ (S.at (v := .slice a8 n8 c8) (xs := X) (by simp))).mono ?_
        rintro e w' ⟨v, y, rfl, rfl, hR⟩
        rw [E1.out]
        replace hy1 := hy1.later y
        replace l1 := l1.later y
        replace l6 := l6.later y
        replace l11 := l11.later y
        replace l16 := l16.later y
        replace l20 := l20.later y
        replace hy3 := hy3.later y
        replace S := S.later y
        obtain ⟨a29, n29, c29, rfl⟩ : ∃ a n c, v = .slice a n c := by obtain ⟨a, c, e⟩ := hR.form; exact ⟨a, _, c, e⟩
        replace S := S.cons hR
        obtain ⟨Y30, hZ⟩ : ∃ Z : Later W, Z.w = y.w := ⟨Y28.step (y), rfl⟩
        rw [← hZ] at S hy1 l1 l6 l11 l16 l20 hy3 ⊢
        clear hZ
        clear y hR
        have eK : n29 = (burnK wn hn X).length := by obtain ⟨a9, c9, e9⟩ := ((S.at (v := .slice a29 n29 c29) (xs := (burnK wn hn X)) (by simp))).form; cases e9; rfl
        have eX : n8 = X.length := by obtain ⟨a9, c9, e9⟩ := ((S.at (v := .slice a8 n8 c8) (xs := X) (by simp))).form; cases e9; rfl
        have i4 := I4.out
        have e4 : ((n29 : Int) == (n8 : Int)) = true := by
          have e9 : (burnK wn hn X).length = X.length := by simpa using i4
          rw [eK, eX, e9]
          simp
        have HX := Lib.hid (show n8 = wn * hn by rw [eX]; exact HM.out.lenX)
        clear eK eX i4
        obtain ⟨bx, ox, kx, e, hkx, hbx, hgx⟩ := (S.at (v := .slice a8 n8 c8) (xs := X) (by simp)).at (k := 0) (by rw [HM.out.lenX]; exact h1w)
        injection e with e1 e2 e3
        subst e1 e3
        have HNx := Lib.hid e2
        have HGx := Lib.hid hgx
        clear e2 hgx
        have q0_0 := l11.cell (k := 0) rfl
        have q0_1 := l11.cell (k := 1) rfl
        have q0_2 := l11.cell (k := 2) rfl
        have q0_l := l11.lt
        have q1_0 := l1.cell (k := 0) rfl
        have q1_1 := l1.cell (k := 1) rfl
        have q1_2 := l1.cell (k := 2) rfl
        have q1_l := l1.lt
        go_wp2
        go_loopw [24] (fun c wr => ∃ (i : Nat) (V : Later Y30.w), wr = V.w ∧ i ≤ wn * hn ∧ c = .int .i64 i) (fun c _ => wn * hn - (intOf c).toNat)
        case atStart => exact ⟨0, Later.self _, rfl, Nat.zero_le _, rfl⟩
        case round =>
          obtain ⟨i, V, rfl, hi, rfl⟩ := hrel
          have v0 := (V.cell q0_l).trans q0_0
          have v1 := (V.cell q0_l).trans q0_1
          have v2 := (V.cell q0_l).trans q0_2
          have u0 := (V.cell q1_l).trans q1_0
          have u1 := (V.cell q1_l).trans q1_1
          have vl := Nat.lt_of_lt_of_le q0_l V.size
          have ul := Nat.lt_of_lt_of_le q1_l V.size
          by_cases hlt : i < wn * hn
          · have hiX : i < n8 := by rw [HX.out]; exact hlt
            have hBs := Lib.hid (fun (Z : World) => Beside_calls wn hn i hs hlt Z)
            go_wp2_with fail
            refine (hBs.out _).mono ?_
            rintro e w' ⟨lv, y1, rfl, rfl, hB⟩
            have hBi := hB.ints (by have := nb_len wn hn i; simp [nbI]; omega)
            obtain ⟨al, nl, cl, rfl⟩ := hB.form'
            have hnl : nl = (nbI wn hn i).length := by obtain ⟨a9, c9, e9⟩ := hB.form; cases e9; rfl
            have HNL := Lib.hid hnl
            have hn4 : nl ≤ 4 := by rw [hnl]; have := nb_len wn hn i; simp [nbI]; omega
            clear hB hnl v0 v1 v2 u0 u1 vl ul
            obtain ⟨V2, hV2⟩ : ∃ V2 : Later Y30.w, V2.w = y1.w := ⟨V.step y1, rfl⟩
            rw [← hV2] at hBi ⊢
            clear hV2 y1 V
            go_wp2
            go_loopw [26] (fun c wr => ∃ (k : Nat) (V3 : Later V2.w), wr = V3.w ∧ k ≤ nl ∧ c = .int .i64 k) (fun c _ => nl - (intOf c).toNat)
            case atStart => exact ⟨0, Later.self _, rfl, Nat.zero_le _, rfl⟩
            case round =>
              obtain ⟨k, V3, rfl, hk, rfl⟩ := hrel
              by_cases hlk : k < nl
              · 
                obtain ⟨bl, ol, kl, e, hkl, hbl, hgl⟩ := hBi.at (k := k) (by rw [← HNL.out]; exact hlk)
                injection e with e1 e2 e3
                subst e1
                have gl := (V3.cell hbl).trans (hgl k (by rw [← HNL.out]; exact hlk))
                have ll := Nat.lt_of_lt_of_le hbl V3.size
                obtain ⟨m, hm, hme⟩ : ∃ m, m ∈ nb wn hn i ∧ nth (nbI wn hn i) k = (m : Int) := by
                  have hk9 : k < (nb wn hn i).length := by have := HNL.out; simp [nbI] at this; omega
                  exact ⟨(nb wn hn i)[k], List.getElem_mem hk9, by rw [nth_eq (by simp [nbI]; exact hk9)]; simp [nbI]⟩
                rw [hme] at gl
                have hmN := (nb_all hs hlt).2.1 m hm
                have hno := I3.out (by trivial) i hlt m hm
                have gx := ((V2.step V3).cell hbx).trans (HGx.out i (by rw [HM.out.lenX]; exact hlt))
                have gm := ((V2.step V3).cell hbx).trans (HGx.out m (by rw [HM.out.lenX]; exact hmN))
                rw [nth_ofL] at gx gm
                have lx := Nat.lt_of_lt_of_le hbx (V2.step V3).size
                have w2 := ((V2.step V3).cell q0_l).trans q0_2
                have wl := Nat.lt_of_lt_of_le q0_l (V2.step V3).size
                have hmX : m < n8 := by rw [HX.out]; exact hmN
                simp only [Later.step_w] at gx gm lx w2 wl
                clear e2 e3 hgl hkl hme
                cases hx0 : (ofL X i == 0)
                · go_wp2
                  refine Mix.region_mixL (Mix.kinds [] [] []) (by kernel_rfl) (by kernel_rfl) ?_
                  repeat ((with_reducible refine Mix.atCons ?_); first | refine Mix.skipU (by rfl) rfl (by rfl) ?_ | (refine Mix.val rfl rfl (by rfl) (fun K hK => ?_); go_big_quiet_op; refine hK _ ?_; clear hK K) | simp only [hx0] | (refine Mix.skip (by rfl) ?_; go_frame))
                  refine Mix.done (fun z3 => ?_)
                  go_wp2
                  go_roundw
                  case rel => exact ⟨k + 1, V3.step z3, rfl, by omega, by go_num⟩
                  case measure => simp [intOf]; omega
                · have hm0 : (ofL X m == 0) = false := by simpa using fun h => hno (by simpa using hx0) h
                  go_wp2
                  refine Mix.region_mixL (Mix.kinds [] [] []) (by kernel_rfl) (by kernel_rfl) ?_
                  repeat ((with_reducible refine Mix.atCons ?_); first | refine Mix.skipU (by rfl) rfl (by rfl) ?_ | (refine Mix.val rfl rfl (by rfl) (fun K hK => ?_); go_big_quiet_op; refine hK _ ?_; clear hK K) | simp only [hx0] | simp only [hm0] | (refine Mix.skip (by rfl) ?_; go_frame))
                  refine Mix.done (fun z3 => ?_)
                  go_wp2
                  go_roundw
                  case rel => exact ⟨k + 1, V3.step z3, rfl, by omega, by go_num⟩
                  case measure => simp [intOf]; omega
              · go_wp2
                go_roundw
                case rel => exact ⟨i + 1, V2.step V3, rfl, by omega, by go_num⟩
                case measure => simp [intOf]; omega
          · obtain rfl : i = wn * hn := by omega
            have hiX : ¬ wn * hn < n8 := by rw [HX.out]; exact hlt
            go_wp2_with fail
            refine (Works_calls _).mono ?_
            rintro e w' ⟨rfl, y, rfl⟩
            go_wp2
            go_ret
            exact ⟨rfl, (Y30.step V).step y, rfl⟩
      · cases bb
        rotate_left
        · obtain rfl : bc = true := i2 rfl
          clear i1 i2
          have q0_0 := l11.cell (k := 0) rfl
          have q0_1 := l11.cell (k := 1) rfl
          have q0_2 := l11.cell (k := 2) rfl
          have q0_l := l11.lt
          go_wp2_with fail
          clear q0_0 q0_1 q0_2 q0_l
          refine (Burn_calls wn hn _ X _ (S.at (v := .slice a8 n8 c8) (xs := X) (by simp))).mono ?_
          rintro e w' ⟨v, y, rfl, rfl, hR⟩
          rw [E1.out]
          replace hy1 := hy1.later y
          replace l1 := l1.later y
          replace l6 := l6.later y
          replace l11 := l11.later y
          replace l16 := l16.later y
          replace l20 := l20.later y
          replace hy3 := hy3.later y
          replace S := S.later y
          obtain ⟨a29, n29, c29, rfl⟩ : ∃ a n c, v = .slice a n c := by obtain ⟨a, c, e⟩ := hR.form; exact ⟨a, _, c, e⟩
          replace S := S.cons hR
          obtain ⟨Y30, hZ⟩ : ∃ Z : Later W, Z.w = y.w := ⟨Y28.step (y), rfl⟩
          rw [← hZ] at S hy1 l1 l6 l11 l16 l20 hy3 ⊢
          clear hZ
          clear y hR
          have eK : n29 = (burnK wn hn X).length := by obtain ⟨a9, c9, e9⟩ := ((S.at (v := .slice a29 n29 c29) (xs := (burnK wn hn X)) (by simp))).form; cases e9; rfl
          have eX : n8 = X.length := by obtain ⟨a9, c9, e9⟩ := ((S.at (v := .slice a8 n8 c8) (xs := X) (by simp))).form; cases e9; rfl
          have i4 := I4.out
          have e4 : ((n29 : Int) == (n8 : Int)) = false := by
            have e9 : ¬ (burnK wn hn X).length = X.length := by simpa using i4
            rw [eK, eX]
            simp
            omega
          have HX := Lib.hid (show n8 = wn * hn by rw [eX]; exact HM.out.lenX)
          clear eK eX i4
          have q0_0 := l11.cell (k := 0) rfl
          have q0_1 := l11.cell (k := 1) rfl
          have q0_2 := l11.cell (k := 2) rfl
          have q0_l := l11.lt
          have q1_0 := l1.cell (k := 0) rfl
          have q1_1 := l1.cell (k := 1) rfl
          have q1_2 := l1.cell (k := 2) rfl
          have q1_l := l1.lt
          go_wp2
          go_loopw [24] (fun c wr => ∃ (i : Nat) (V : Later Y30.w), wr = V.w ∧ i ≤ wn * hn ∧ c = .int .i64 i) (fun c _ => wn * hn - (intOf c).toNat)
          case atStart => exact ⟨0, Later.self _, rfl, Nat.zero_le _, rfl⟩
          case round =>
            obtain ⟨i, V, rfl, hi, rfl⟩ := hrel
            have v0 := (V.cell q0_l).trans q0_0
            have v1 := (V.cell q0_l).trans q0_1
            have v2 := (V.cell q0_l).trans q0_2
            have u0 := (V.cell q1_l).trans q1_0
            have u1 := (V.cell q1_l).trans q1_1
            have vl := Nat.lt_of_lt_of_le q0_l V.size
            have ul := Nat.lt_of_lt_of_le q1_l V.size
            by_cases hlt : i < wn * hn
            · have hiX : i < n8 := by rw [HX.out]; exact hlt
              have hBs := Lib.hid (fun (Z : World) => Beside_calls wn hn i hs hlt Z)
              go_wp2_with fail
              refine (hBs.out _).mono ?_
              rintro e w' ⟨lv, y1, rfl, rfl, hB⟩
              have hBi := hB.ints (by have := nb_len wn hn i; simp [nbI]; omega)
              obtain ⟨al, nl, cl, rfl⟩ := hB.form'
              have hnl : nl = (nbI wn hn i).length := by obtain ⟨a9, c9, e9⟩ := hB.form; cases e9; rfl
              have HNL := Lib.hid hnl
              have hn4 : nl ≤ 4 := by rw [hnl]; have := nb_len wn hn i; simp [nbI]; omega
              clear hB hnl v0 v1 v2 u0 u1 vl ul
              obtain ⟨V2, hV2⟩ : ∃ V2 : Later Y30.w, V2.w = y1.w := ⟨V.step y1, rfl⟩
              rw [← hV2] at hBi ⊢
              clear hV2 y1 V
              go_wp2
              go_loopw [26] (fun c wr => ∃ (k : Nat) (V3 : Later V2.w), wr = V3.w ∧ k ≤ nl ∧ c = .int .i64 k) (fun c _ => nl - (intOf c).toNat)
              case atStart => exact ⟨0, Later.self _, rfl, Nat.zero_le _, rfl⟩
              case round =>
                obtain ⟨k, V3, rfl, hk, rfl⟩ := hrel
                by_cases hlk : k < nl
                · go_wp2
                  refine Mix.region_mixL (Mix.kinds [] [] []) (by kernel_rfl) (by kernel_rfl) ?_
                  repeat ((with_reducible refine Mix.atCons ?_); first | refine Mix.skipU (by rfl) rfl (by rfl) ?_ | (refine Mix.val rfl rfl (by rfl) (fun K hK => ?_); go_big_quiet_op; refine hK _ ?_; clear hK K) | (refine Mix.skip (by rfl) ?_; go_frame))
                  refine Mix.done (fun z3 => ?_)
                  go_wp2
                  go_roundw
                  case rel => exact ⟨k + 1, V3.step z3, rfl, by omega, by go_num⟩
                  case measure => simp [intOf]; omega
                · go_wp2
                  go_roundw
                  case rel => exact ⟨i + 1, V2.step V3, rfl, by omega, by go_num⟩
                  case measure => simp [intOf]; omega
            · obtain rfl : i = wn * hn := by omega
              have hiX : ¬ wn * hn < n8 := by rw [HX.out]; exact hlt
              go_wp2_with fail
              refine (Works_calls _).mono ?_
              rintro e w' ⟨rfl, y, rfl⟩
              go_wp2
              go_ret
              exact ⟨rfl, (Y30.step V).step y, rfl⟩
        · clear i1 i2
          have q0_0 := l11.cell (k := 0) rfl
          have q0_1 := l11.cell (k := 1) rfl
          have q0_2 := l11.cell (k := 2) rfl
          have q0_l := l11.lt
          go_wp2_with fail
          clear q0_0 q0_1 q0_2 q0_l
          refine (Burn_calls wn hn _ X _ (S.at (v := .slice a8 n8 c8) (xs := X) (by simp))).mono ?_
          rintro e w' ⟨v, y, rfl, rfl, hR⟩
          rw [E1.out]
          replace hy1 := hy1.later y
          replace l1 := l1.later y
          replace l6 := l6.later y
          replace l11 := l11.later y
          replace l16 := l16.later y
          replace l20 := l20.later y
          replace hy3 := hy3.later y
          replace S := S.later y
          obtain ⟨a29, n29, c29, rfl⟩ : ∃ a n c, v = .slice a n c := by obtain ⟨a, c, e⟩ := hR.form; exact ⟨a, _, c, e⟩
          replace S := S.cons hR
          obtain ⟨Y30, hZ⟩ : ∃ Z : Later W, Z.w = y.w := ⟨Y28.step (y), rfl⟩
          rw [← hZ] at S hy1 l1 l6 l11 l16 l20 hy3 ⊢
          clear hZ
          clear y hR
          have eK : n29 = (burnK wn hn X).length := by obtain ⟨a9, c9, e9⟩ := ((S.at (v := .slice a29 n29 c29) (xs := (burnK wn hn X)) (by simp))).form; cases e9; rfl
          have eX : n8 = X.length := by obtain ⟨a9, c9, e9⟩ := ((S.at (v := .slice a8 n8 c8) (xs := X) (by simp))).form; cases e9; rfl
          have i4 := I4.out
          have e4 : ((n29 : Int) == (n8 : Int)) = false := by
            have e9 : ¬ (burnK wn hn X).length = X.length := by simpa using i4
            rw [eK, eX]
            simp
            omega
          have HX := Lib.hid (show n8 = wn * hn by rw [eX]; exact HM.out.lenX)
          clear eK eX i4
          have q0_0 := l11.cell (k := 0) rfl
          have q0_1 := l11.cell (k := 1) rfl
          have q0_2 := l11.cell (k := 2) rfl
          have q0_l := l11.lt
          have q1_0 := l1.cell (k := 0) rfl
          have q1_1 := l1.cell (k := 1) rfl
          have q1_2 := l1.cell (k := 2) rfl
          have q1_l := l1.lt
          go_wp2
          go_loopw [24] (fun c wr => ∃ (i : Nat) (V : Later Y30.w), wr = V.w ∧ i ≤ wn * hn ∧ c = .int .i64 i) (fun c _ => wn * hn - (intOf c).toNat)
          case atStart => exact ⟨0, Later.self _, rfl, Nat.zero_le _, rfl⟩
          case round =>
            obtain ⟨i, V, rfl, hi, rfl⟩ := hrel
            have v0 := (V.cell q0_l).trans q0_0
            have v1 := (V.cell q0_l).trans q0_1
            have v2 := (V.cell q0_l).trans q0_2
            have u0 := (V.cell q1_l).trans q1_0
            have u1 := (V.cell q1_l).trans q1_1
            have vl := Nat.lt_of_lt_of_le q0_l V.size
            have ul := Nat.lt_of_lt_of_le q1_l V.size
            by_cases hlt : i < wn * hn
            · have hiX : i < n8 := by rw [HX.out]; exact hlt
              have hBs := Lib.hid (fun (Z : World) => Beside_calls wn hn i hs hlt Z)
              go_wp2_with fail
              refine (hBs.out _).mono ?_
              rintro e w' ⟨lv, y1, rfl, rfl, hB⟩
              have hBi := hB.ints (by have := nb_len wn hn i; simp [nbI]; omega)
              obtain ⟨al, nl, cl, rfl⟩ := hB.form'
              have hnl : nl = (nbI wn hn i).length := by obtain ⟨a9, c9, e9⟩ := hB.form; cases e9; rfl
              have HNL := Lib.hid hnl
              have hn4 : nl ≤ 4 := by rw [hnl]; have := nb_len wn hn i; simp [nbI]; omega
              clear hB hnl v0 v1 v2 u0 u1 vl ul
              obtain ⟨V2, hV2⟩ : ∃ V2 : Later Y30.w, V2.w = y1.w := ⟨V.step y1, rfl⟩
              rw [← hV2] at hBi ⊢
              clear hV2 y1 V
              go_wp2
              go_loopw [26] (fun c wr => ∃ (k : Nat) (V3 : Later V2.w), wr = V3.w ∧ k ≤ nl ∧ c = .int .i64 k) (fun c _ => nl - (intOf c).toNat)
              case atStart => exact ⟨0, Later.self _, rfl, Nat.zero_le _, rfl⟩
              case round =>
                obtain ⟨k, V3, rfl, hk, rfl⟩ := hrel
                by_cases hlk : k < nl
                · go_wp2
                  refine Mix.region_mixL (Mix.kinds [] [] []) (by kernel_rfl) (by kernel_rfl) ?_
                  repeat ((with_reducible refine Mix.atCons ?_); first | refine Mix.skipU (by rfl) rfl (by rfl) ?_ | (refine Mix.val rfl rfl (by rfl) (fun K hK => ?_); go_big_quiet_op; refine hK _ ?_; clear hK K) | (refine Mix.skip (by rfl) ?_; go_frame))
                  refine Mix.done (fun z3 => ?_)
                  go_wp2
                  go_roundw
                  case rel => exact ⟨k + 1, V3.step z3, rfl, by omega, by go_num⟩
                  case measure => simp [intOf]; omega
                · go_wp2
                  go_roundw
                  case rel => exact ⟨i + 1, V2.step V3, rfl, by omega, by go_num⟩
                  case measure => simp [intOf]; omega
            · obtain rfl : i = wn * hn := by omega
              have hiX : ¬ wn * hn < n8 := by rw [HX.out]; exact hlt
              go_wp2_with fail
              refine (Works_calls _).mono ?_
              rintro e w' ⟨rfl, y, rfl⟩
              go_wp2
              go_ret
              exact ⟨rfl, (Y30.step V).step y, rfl⟩
end Go.Proofs.Ytbjmfhlkmklmmaa
