import Derived.Test.YtbjmfhlkmklmmaaWkP
import Derived.Test.YtbjmfhlkmklmmaaThB
/-  MendBlow. -/
namespace Go.Proofs.Ytbjmfhlkmklmmaa
open Go.RowKit
set_option maxRecDepth 100000 in
set_option maxHeartbeats 8000000 in
theorem LBlow_calls (w h : Int) (m : Nat) (hm255 : m ≤ 255) (dv : Value) (d : List Int) (W : World) (hd : Ints W dv d) :
    Calls Try.prog 15 #[.agg #[.int .i64 w, .int .i64 h, dv], .int .u8 (m : Int)] W (Gives (.bool true) W) := by
  have S : Ins W [] := Ins.nil _
  obtain ⟨a1, n1, c1, rfl⟩ : ∃ a n c, dv = .slice a n c := by obtain ⟨a, c, e⟩ := hd.form; exact ⟨a, _, c, e⟩
  have S := S.cons hd
  by_cases hv : vplate w h d = 0
  rotate_left
  · have hvb : (vplate w h d == 0) = false := by simpa using hv
    clear hv
    go_enter Try.func15, Try.ntmps15
    go_wp2_with fail
    obtain ⟨B1, hb⟩ : ∃ b, b = W.heap.size := ⟨_, rfl⟩
    have l1 : Lin (W.alloc (.cells #[.int .i64 w, .int .i64 h, .slice a1 n1 c1] 24)) B1 24 [.int .i64 w, .int .i64 h, .slice a1 n1 c1] := by rw [hb]; exact Lin.new _ _ [.int .i64 w, .int .i64 h, .slice a1 n1 c1]
    replace S := S.later (Later.new _ (.cells #[.int .i64 w, .int .i64 h, .slice a1 n1 c1] 24))
    rw [Later.new_w] at S
    have hsz : (W.alloc (.cells #[.int .i64 w, .int .i64 h, .slice a1 n1 c1] 24)).heap.size = B1 + 1 := by rw [hb]; simp
    obtain ⟨Y2, hZ⟩ : ∃ Z : Later W, Z.w = W.alloc (.cells #[.int .i64 w, .int .i64 h, .slice a1 n1 c1] 24) := ⟨Later.new _ _, rfl⟩
    rw [← hZ] at S hsz l1 ⊢
    clear hZ
    rw [← hb]
    clear hb
    clear hsz
    refine (fine_calls w h _ d _ (S.at (v := .slice a1 n1 c1) (xs := d) (by simp))).mono ?_
    rintro e w' ⟨rfl, y, rfl⟩
    rw [hvb]
    replace l1 := l1.later y
    replace S := S.later y
    obtain ⟨Y3, hZ⟩ : ∃ Z : Later W, Z.w = y.w := ⟨Y2.step (y), rfl⟩
    rw [← hZ] at S l1 ⊢
    clear hZ
    clear y
    have q0_0 := l1.cell (k := 0) rfl
    have q0_1 := l1.cell (k := 1) rfl
    have q0_2 := l1.cell (k := 2) rfl
    have q0_l := l1.lt
    go_wp2_with fail
    clear q0_0 q0_1 q0_2 q0_l
    refine (Works_calls _).mono ?_
    rintro e w' ⟨rfl, y, rfl⟩
    go_wp2
    go_ret
    exact ⟨rfl, Y3.step y, rfl⟩
  · obtain ⟨wn, hn, rfl, rfl, _⟩ := vplate_zero hv
    obtain ⟨hs, hl, hlo, hlow⟩ := valid_low hv
    obtain ⟨X, U, hm⟩ := ham_ex hs hl hlow
    have h36 : wn * hn ≤ 36 := Nat.mul_le_mul hs.2.1 hs.2.2.2
    have h1w : 1 ≤ wn * hn := Nat.mul_le_mul hs.1 hs.2.2.1
    have HV := Lib.hid hv
    have HL := Lib.hid hl
    have HLO := Lib.hid hlo
    have HLW := Lib.hid hlow
    have HM := Lib.hid hm
    have hvb : (vplate wn hn d == 0) = true := by rw [hv]; rfl
    have HN1 := Lib.hid (show n1 = d.length by obtain ⟨a, c, e⟩ := hd.form; cases e; rfl)
    clear hv hl hlo hlow hm
    go_enter Try.func15, Try.ntmps15
    go_wp2_with fail
    obtain ⟨B1, hb⟩ : ∃ b, b = W.heap.size := ⟨_, rfl⟩
    have l1 : Lin (W.alloc (.cells #[.int .i64 wn, .int .i64 hn, .slice a1 n1 c1] 24)) B1 24 [.int .i64 wn, .int .i64 hn, .slice a1 n1 c1] := by rw [hb]; exact Lin.new _ _ [.int .i64 wn, .int .i64 hn, .slice a1 n1 c1]
    replace S := S.later (Later.new _ (.cells #[.int .i64 wn, .int .i64 hn, .slice a1 n1 c1] 24))
    rw [Later.new_w] at S
    have hsz : (W.alloc (.cells #[.int .i64 wn, .int .i64 hn, .slice a1 n1 c1] 24)).heap.size = B1 + 1 := by rw [hb]; simp
    obtain ⟨Y2, hZ⟩ : ∃ Z : Later W, Z.w = W.alloc (.cells #[.int .i64 wn, .int .i64 hn, .slice a1 n1 c1] 24) := ⟨Later.new _ _, rfl⟩
    rw [← hZ] at S hsz l1 ⊢
    clear hZ
    rw [← hb]
    clear hb
    clear hsz
    refine (fine_calls wn hn _ d _ (S.at (v := .slice a1 n1 c1) (xs := d) (by simp))).mono ?_
    rintro e w' ⟨rfl, y, rfl⟩
    rw [hvb]
    clear hvb
    replace l1 := l1.later y
    replace S := S.later y
    obtain ⟨Y3, hZ⟩ : ∃ Z : Later W, Z.w = y.w := ⟨Y2.step (y), rfl⟩
    rw [← hZ] at S l1 ⊢
    clear hZ
    clear y
    obtain ⟨i, hi⟩ : ∃ i, m % n1 = i := ⟨_, rfl⟩
    have hn1 : n1 = wn * hn := HN1.out.trans HL.out
    have hiN : i < wn * hn := by rw [← hi, ← hn1]; exact Nat.mod_lt _ (by omega)
    have hin : i < n1 := by omega
    have ei : (m : Int) % (n1 : Int) = (i : Int) := by rw [← hi]; exact (Int.natCast_emod _ _).symm
    have hn0 : (n1 : Int) ≠ 0 := by omega
    have HIN := Lib.hid hiN
    have HNN := Lib.hid hn1
    clear hi hn1 hiN
    have q0_0 := l1.cell (k := 0) rfl
    have q0_1 := l1.cell (k := 1) rfl
    have q0_2 := l1.cell (k := 2) rfl
    have q0_l := l1.lt
    go_wp2_with fail
    clear q0_0 q0_1 q0_2 q0_l
    refine (Blow_calls wn hn i _ d _ (S.at (v := .slice a1 n1 c1) (xs := d) (by simp))).mono ?_
    rintro e w' ⟨v, y, rfl, rfl, hR⟩
    replace l1 := l1.later y
    replace S := S.later y
    obtain ⟨a4, n4, c4, rfl⟩ : ∃ a n c, v = .slice a n c := by obtain ⟨a, c, e⟩ := hR.form; exact ⟨a, _, c, e⟩
    replace S := S.cons hR
    obtain ⟨Y5, hZ⟩ : ∃ Z : Later W, Z.w = y.w := ⟨Y3.step (y), rfl⟩
    rw [← hZ] at S l1 ⊢
    clear hZ
    clear y hR
    obtain ⟨bd, od, kd, e, hkd, hbd, hgd⟩ := (S.at (v := .slice a1 n1 c1) (xs := d) (by simp)).at (k := 0) (by rw [HL.out]; exact h1w)
    injection e with e1 e2 e3
    subst e1 e3
    have HNd := Lib.hid e2
    have HGd := Lib.hid hgd
    clear e2 hgd
    have gd := hbd
    have gi0 := HGd.out i (by rw [HL.out]; exact HIN.out)
    rw [nth_ofL] at gi0
    have hdl2 : d.length = wn * hn := HL.out
    by_cases h4 : 4 ≤ ofL d i
    rotate_left
    · have hE : blowE wn hn d i = 9 := by rw [blowE, if_neg (by rw [HV.out]; simp), if_neg (by rw [hdl2]; have := HIN.out; omega), Int.toNat_natCast, if_pos (by omega)]
      have hLe : blowL wn hn d i = [] := by rw [blowL, if_neg (by rw [hE]; simp)]
      have hz : n4 = 0 := by obtain ⟨a, c, e⟩ := (S.at (v := .slice a4 n4 c4) (xs := (blowL wn hn d i)) (by simp)).form; cases e; rw [hLe]; rfl
      rw [hE]
      have h3 : ofL d i ≤ 3 := by omega
      clear hE hLe h4 hdl2
      have SD := (S.at (v := .slice (some ⟨bd, od, none⟩) n1 c1) (xs := d) (by simp))
      obtain ⟨b9, o9, k9, e9, hk9, hb9, hg9⟩ := SD.at (k := 0) (by rw [HL.out]; exact h1w)
      injection e9 with f1 f2 f3
      injection f1 with f1
      injection f1 with f1 f4 f5
      have gi := hg9 i (by rw [HL.out]; exact HIN.out)
      rw [nth_ofL, ← f1, ← f4] at gi
      have li := hb9
      rw [← f1] at li
      clear hg9 f1 f2 f3 f4 f5 hk9 hb9 SD
      have q0_0 := l1.cell (k := 0) rfl
      have q0_1 := l1.cell (k := 1) rfl
      have q0_2 := l1.cell (k := 2) rfl
      have q0_l := l1.lt
      go_wp2_with fail
      refine (Works_calls _).mono ?_
      rintro e w' ⟨rfl, y, rfl⟩
      go_wp2
      go_ret
      exact ⟨rfl, Y5.step y, rfl⟩
    · have hE : blowE wn hn d i = 0 := by rw [blowE, if_neg (by rw [HV.out]; simp), if_neg (by rw [hdl2]; have := HIN.out; omega), Int.toNat_natCast, if_neg (by omega)]
      have hLe : blowL wn hn d i = hitL wn hn d i 1 := by rw [blowL, if_pos hE, Int.toNat_natCast, Int.toNat_natCast, Int.toNat_natCast]
      rw [hLe] at S
      obtain ⟨q, hq⟩ : ∃ q, hitL wn hn d i 1 = q := ⟨_, rfl⟩
      rw [hq] at S
      have hql : q.length = wn * hn := by rw [← hq, hitL_len]; exact hdl2
      have hnl : n1 = n4 := by obtain ⟨a, c, e⟩ := (S.at (v := .slice a4 n4 c4) (xs := q) (by simp)).form; cases e; rw [hql]; exact HNN.out
      rw [hE]
      have h3 : ¬ ofL d i ≤ 3 := by omega
      have H4 := Lib.hid h4
      have HQ := Lib.hid hq
      have HQL := Lib.hid hql
      subst hnl
      clear hE hLe h4 hdl2 hq hql
      have SD := (S.at (v := .slice (some ⟨bd, od, none⟩) n1 c1) (xs := d) (by simp))
      obtain ⟨b9, o9, k9, e9, hk9, hb9, hg9⟩ := SD.at (k := 0) (by rw [HL.out]; exact h1w)
      injection e9 with f1 f2 f3
      injection f1 with f1
      injection f1 with f1 f4 f5
      have gi := hg9 i (by rw [HL.out]; exact HIN.out)
      rw [nth_ofL, ← f1, ← f4] at gi
      have li := hb9
      rw [← f1] at li
      clear hg9 f1 f2 f3 f4 f5 hk9 hb9 SD
      have q0_0 := l1.cell (k := 0) rfl
      have q0_1 := l1.cell (k := 1) rfl
      have q0_2 := l1.cell (k := 2) rfl
      have q0_l := l1.lt
      go_wp2_with fail
      clear q0_0 q0_1 q0_2 q0_l
      clear gi li
      obtain ⟨B6, hb⟩ : ∃ b, b = Y5.w.heap.size := ⟨_, rfl⟩
      have l6 : Lin (Y5.w.alloc (.cells #[.int .i64 wn, .int .i64 hn, .slice a4 n1 c4] 24)) B6 24 [.int .i64 wn, .int .i64 hn, .slice a4 n1 c4] := by rw [hb]; exact Lin.new _ _ [.int .i64 wn, .int .i64 hn, .slice a4 n1 c4]
      replace S := S.later (Later.new _ (.cells #[.int .i64 wn, .int .i64 hn, .slice a4 n1 c4] 24))
      rw [Later.new_w] at S
      replace l1 := l1.later (Later.new _ (.cells #[.int .i64 wn, .int .i64 hn, .slice a4 n1 c4] 24))
      rw [Later.new_w] at l1
      have hsz : (Y5.w.alloc (.cells #[.int .i64 wn, .int .i64 hn, .slice a4 n1 c4] 24)).heap.size = B6 + 1 := by rw [hb]; simp
      obtain ⟨Y7, hZ⟩ : ∃ Z : Later W, Z.w = Y5.w.alloc (.cells #[.int .i64 wn, .int .i64 hn, .slice a4 n1 c4] 24) := ⟨Y5.step (Later.new _ _), rfl⟩
      rw [← hZ] at S hsz l1 l6 ⊢
      clear hZ
      rw [← hb]
      clear hb
      clear hsz
      by_cases hvq : vplate wn hn q = 0
      rotate_left
      · have hvb : (vplate wn hn q == 0) = false := by simpa using hvq
        clear hvq
        refine (fine_calls wn hn _ q _ (S.at (v := .slice a4 n1 c4) (xs := q) (by simp))).mono ?_
        rintro e w' ⟨rfl, y, rfl⟩
        rw [hvb]
        replace l1 := l1.later y
        replace l6 := l6.later y
        replace S := S.later y
        obtain ⟨Y8, hZ⟩ : ∃ Z : Later W, Z.w = y.w := ⟨Y7.step (y), rfl⟩
        rw [← hZ] at S l1 l6 ⊢
        clear hZ
        clear y
        go_wp2_with fail
        refine (Works_calls _).mono ?_
        rintro e w' ⟨rfl, y, rfl⟩
        go_wp2
        go_ret
        exact ⟨rfl, Y8.step y, rfl⟩
      · have hvb : (vplate wn hn q == 0) = true := by rw [hvq]; rfl
        obtain ⟨_, _, hqlo, hqlow⟩ := valid_low hvq
        obtain ⟨X2, U2, hm2⟩ := ham_ex hs HQL.out hqlow
        have hbl := HM.out.blow hs HIN.out H4.out (by rw [HQ.out]; exact hm2)
        have HVQ := Lib.hid hvq
        have HM2 := Lib.hid hm2
        have HB := Lib.hid hbl
        clear hvq hqlo hqlow hm2 hbl
        refine (fine_calls wn hn _ q _ (S.at (v := .slice a4 n1 c4) (xs := q) (by simp))).mono ?_
        rintro e w' ⟨rfl, y, rfl⟩
        rw [hvb]
        clear hvb
        replace l1 := l1.later y
        replace l6 := l6.later y
        replace S := S.later y
        obtain ⟨Y8, hZ⟩ : ∃ Z : Later W, Z.w = y.w := ⟨Y7.step (y), rfl⟩
        rw [← hZ] at S l1 l6 ⊢
        clear hZ
        clear y
        have q0_0 := l1.cell (k := 0) rfl
        have q0_1 := l1.cell (k := 1) rfl
        have q0_2 := l1.cell (k := 2) rfl
        have q0_l := l1.lt
        go_wp2_with fail
        clear q0_0 q0_1 q0_2 q0_l
        refine (flat_calls wn hn _ d X U _ (S.at (v := .slice (some ⟨bd, od, none⟩) n1 c1) (xs := d) (by simp)) HV.out HM.out).mono ?_
        rintro e w' ⟨v, u, y, rfl, rfl, hR, hU⟩
        replace l1 := l1.later y
        replace l6 := l6.later y
        replace S := S.later y
        obtain ⟨a9, n9, c9, rfl⟩ : ∃ a n c, v = .slice a n c := by obtain ⟨a, c, e⟩ := hR.form; exact ⟨a, _, c, e⟩
        replace S := S.cons hR
        obtain ⟨a10, n10, c10, rfl⟩ : ∃ a n c, u = .slice a n c := by obtain ⟨a, c, e⟩ := hU.form; exact ⟨a, _, c, e⟩
        replace S := S.cons hU
        obtain ⟨Y11, hZ⟩ : ∃ Z : Later W, Z.w = y.w := ⟨Y8.step (y), rfl⟩
        rw [← hZ] at S l1 l6 ⊢
        clear hZ
        clear y hR hU
        have q0_0 := l6.cell (k := 0) rfl
        have q0_1 := l6.cell (k := 1) rfl
        have q0_2 := l6.cell (k := 2) rfl
        have q0_l := l6.lt
        go_wp2_with fail
        clear q0_0 q0_1 q0_2 q0_l
        obtain ⟨B12, hb⟩ : ∃ b, b = Y11.w.heap.size := ⟨_, rfl⟩
        have l12 : Lin (Y11.w.alloc (.cells #[.int .i64 wn, .int .i64 hn, .slice a9 n9 c9] 24)) B12 24 [.int .i64 wn, .int .i64 hn, .slice a9 n9 c9] := by rw [hb]; exact Lin.new _ _ [.int .i64 wn, .int .i64 hn, .slice a9 n9 c9]
        replace S := S.later (Later.new _ (.cells #[.int .i64 wn, .int .i64 hn, .slice a9 n9 c9] 24))
        rw [Later.new_w] at S
        replace l1 := l1.later (Later.new _ (.cells #[.int .i64 wn, .int .i64 hn, .slice a9 n9 c9] 24))
        rw [Later.new_w] at l1
        replace l6 := l6.later (Later.new _ (.cells #[.int .i64 wn, .int .i64 hn, .slice a9 n9 c9] 24))
        rw [Later.new_w] at l6
        have hsz : (Y11.w.alloc (.cells #[.int .i64 wn, .int .i64 hn, .slice a9 n9 c9] 24)).heap.size = B12 + 1 := by rw [hb]; simp
        obtain ⟨Y13, hZ⟩ : ∃ Z : Later W, Z.w = Y11.w.alloc (.cells #[.int .i64 wn, .int .i64 hn, .slice a9 n9 c9] 24) := ⟨Y11.step (Later.new _ _), rfl⟩
        rw [← hZ] at S hsz l1 l6 l12 ⊢
        clear hZ
        rw [← hb]
        clear hb
        clear hsz
        refine (flat_calls wn hn _ q X2 U2 _ (S.at (v := .slice a4 n1 c4) (xs := q) (by simp)) HVQ.out HM2.out).mono ?_
        rintro e w' ⟨v, u, y, rfl, rfl, hR, hU⟩
        replace l1 := l1.later y
        replace l6 := l6.later y
        replace l12 := l12.later y
        replace S := S.later y
        obtain ⟨a14, n14, c14, rfl⟩ : ∃ a n c, v = .slice a n c := by obtain ⟨a, c, e⟩ := hR.form; exact ⟨a, _, c, e⟩
        replace S := S.cons hR
        obtain ⟨a15, n15, c15, rfl⟩ : ∃ a n c, u = .slice a n c := by obtain ⟨a, c, e⟩ := hU.form; exact ⟨a, _, c, e⟩
        replace S := S.cons hU
        obtain ⟨Y16, hZ⟩ : ∃ Z : Later W, Z.w = y.w := ⟨Y13.step (y), rfl⟩
        rw [← hZ] at S l1 l6 l12 ⊢
        clear hZ
        clear y hR hU
        have q0_0 := l12.cell (k := 0) rfl
        have q0_1 := l12.cell (k := 1) rfl
        have q0_2 := l12.cell (k := 2) rfl
        have q0_l := l12.lt
        go_wp2_with fail
        clear q0_0 q0_1 q0_2 q0_l
        obtain ⟨B17, hb⟩ : ∃ b, b = Y16.w.heap.size := ⟨_, rfl⟩
        have l17 : Lin (Y16.w.alloc (.cells #[.int .i64 wn, .int .i64 hn, .slice a14 n14 c14] 24)) B17 24 [.int .i64 wn, .int .i64 hn, .slice a14 n14 c14] := by rw [hb]; exact Lin.new _ _ [.int .i64 wn, .int .i64 hn, .slice a14 n14 c14]
        replace S := S.later (Later.new _ (.cells #[.int .i64 wn, .int .i64 hn, .slice a14 n14 c14] 24))
        rw [Later.new_w] at S
        replace l1 := l1.later (Later.new _ (.cells #[.int .i64 wn, .int .i64 hn, .slice a14 n14 c14] 24))
        rw [Later.new_w] at l1
        replace l6 := l6.later (Later.new _ (.cells #[.int .i64 wn, .int .i64 hn, .slice a14 n14 c14] 24))
        rw [Later.new_w] at l6
        replace l12 := l12.later (Later.new _ (.cells #[.int .i64 wn, .int .i64 hn, .slice a14 n14 c14] 24))
        rw [Later.new_w] at l12
        have hsz : (Y16.w.alloc (.cells #[.int .i64 wn, .int .i64 hn, .slice a14 n14 c14] 24)).heap.size = B17 + 1 := by rw [hb]; simp
        obtain ⟨Y18, hZ⟩ : ∃ Z : Later W, Z.w = Y16.w.alloc (.cells #[.int .i64 wn, .int .i64 hn, .slice a14 n14 c14] 24) := ⟨Y16.step (Later.new _ _), rfl⟩
        rw [← hZ] at S hsz l1 l6 l12 l17 ⊢
        clear hZ
        rw [← hb]
        clear hb
        clear hsz
        have hXX : eqI X X2 = true := by rw [HB.out.1]; exact eqI_self _
        refine (Longs_calls _ _ X X2 _ (S.at (v := .slice a9 n9 c9) (xs := X) (by simp)) (S.at (v := .slice a14 n14 c14) (xs := X2) (by simp))).mono ?_
        rintro e w' ⟨rfl, y, rfl⟩
        rw [hXX]
        clear hXX
        replace l1 := l1.later y
        replace l6 := l6.later y
        replace l12 := l12.later y
        replace l17 := l17.later y
        replace S := S.later y
        obtain ⟨Y19, hZ⟩ : ∃ Z : Later W, Z.w = y.w := ⟨Y18.step (y), rfl⟩
        rw [← hZ] at S l1 l6 l12 l17 ⊢
        clear hZ
        clear y
        obtain ⟨bu, ou, ku, e, hku, hbu, hgu⟩ := (S.at (v := .slice a10 n10 c10) (xs := U) (by simp)).at (k := 0) (by rw [HM.out.lenU]; exact h1w)
        injection e with e1 e2 e3
        subst e1 e3
        have HNu := Lib.hid e2
        have HGu := Lib.hid hgu
        clear e2 hgu
        obtain ⟨bw, ow, kw, e, hkw, hbw, hgw⟩ := (S.at (v := .slice a15 n15 c15) (xs := U2) (by simp)).at (k := 0) (by rw [HM2.out.lenU]; exact h1w)
        injection e with e1 e2 e3
        subst e1 e3
        have HNw := Lib.hid e2
        have HGw := Lib.hid hgw
        clear e2 hgw
        have HUL := Lib.hid (HNu.out.trans HM.out.lenU)
        have HWL := Lib.hid (HNw.out.trans HM2.out.lenU)
        have hbu0 : ∀ j, j < wn * hn → 0 ≤ ofL U2 j ∧ ofL U2 j ≤ 348 := HM2.out.upos hs (valid_low HVQ.out).2.2.2
        have HU2 := Lib.hid hbu0
        clear hbu0
        go_wp2
        go_loopw [15] (fun c wr => ∃ (k : Nat) (V : Later Y19.w), wr = V.w ∧ k ≤ wn * hn ∧ c = .int .i64 k) (fun c _ => wn * hn - (intOf c).toNat)
        case atStart => exact ⟨0, Later.self _, rfl, Nat.zero_le _, rfl⟩
        case round =>
          obtain ⟨k, V, rfl, hk, rfl⟩ := hrel
          by_cases hlt : k < wn * hn
          · have gu := (V.cell hbu).trans (HGu.out k (by rw [HM.out.lenU]; exact hlt))
            have gw := (V.cell hbw).trans (HGw.out k (by rw [HM2.out.lenU]; exact hlt))
            have lu := Nat.lt_of_lt_of_le hbu V.size
            have lw := Nat.lt_of_lt_of_le hbw V.size
            rw [nth_ofL] at gu gw
            have hku : k < n10 := by rw [HUL.out]; exact hlt
            have hkw : k < n15 := by rw [HWL.out]; exact hlt
            have hb1 := HB.out.2 k hlt
            have hb2 := HU2.out k hlt
            by_cases eki : k = i
            · subst eki
              have e1 : IntKind.i64.wrap (ofL U2 k + 1) = ofL U2 k + 1 := IntWalk.i64_in _ (by omega)
              rw [if_pos rfl] at hb1
              have e2 : (ofL U k != ofL U2 k + 1) = false := by rw [hb1]; simp
              have E2 := Lib.hid e2
              clear hb1 hb2 e2
              go_wp2
              refine Mix.region_mixL (Mix.kinds [] [] []) (by kernel_rfl) (by kernel_rfl) ?_
              repeat ((with_reducible refine Mix.atCons ?_); first | refine Mix.skipU (by rfl) rfl (by rfl) ?_ | (refine Mix.val rfl rfl (by rfl) (fun K hK => ?_); go_big_quiet_op; refine hK _ ?_; clear hK K) | simp only [E2.out])
              refine Mix.done (fun z3 => ?_)
              have e2 := E2.out
              go_wp2
              go_roundw
              case rel => exact ⟨k + 1, V.step z3, rfl, by omega, by go_num⟩
              case measure => simp [intOf]; omega
            · have eki2 : ((k : Int) == (i : Int)) = false := by simp; omega
              have e1 : IntKind.i64.wrap (ofL U2 k) = ofL U2 k := IntWalk.i64_in _ (by omega)
              rw [if_neg eki] at hb1
              have e2 : (ofL U k != ofL U2 k) = false := by rw [hb1]; simp
              have E2 := Lib.hid e2
              clear hb1 hb2 e2
              go_wp2
              refine Mix.region_mixL (Mix.kinds [] [] []) (by kernel_rfl) (by kernel_rfl) ?_
              repeat ((with_reducible refine Mix.atCons ?_); first | refine Mix.skipU (by rfl) rfl (by rfl) ?_ | (refine Mix.val rfl rfl (by rfl) (fun K hK => ?_); go_big_quiet_op; refine hK _ ?_; clear hK K) | simp only [E2.out])
              refine Mix.done (fun z3 => ?_)
              have e2 := E2.out
              go_wp2
              go_roundw
              case rel => exact ⟨k + 1, V.step z3, rfl, by omega, by go_num⟩
              case measure => simp [intOf]; omega
          · have hku : ¬ k < n10 := by rw [HUL.out]; exact hlt
            go_wp2_with fail
            refine (Works_calls _).mono ?_
            rintro e w' ⟨rfl, y, rfl⟩
            go_wp2
            go_ret
            exact ⟨rfl, (Y19.step V).step y, rfl⟩
theorem LBlowI_calls (w h m : Int) (h0 : 0 ≤ m) (hm255 : m ≤ 255) (dv : Value) (d : List Int) (W : World) (hd : Ints W dv d) :
    Calls Try.prog 15 #[.agg #[.int .i64 w, .int .i64 h, dv], .int .u8 m] W (Gives (.bool true) W) := by
  obtain ⟨k, rfl⟩ := Int.eq_ofNat_of_zero_le h0
  exact LBlow_calls w h k (by omega) dv d W hd
end Go.Proofs.Ytbjmfhlkmklmmaa
