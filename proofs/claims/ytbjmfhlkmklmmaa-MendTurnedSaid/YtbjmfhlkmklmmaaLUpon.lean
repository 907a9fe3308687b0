import Derived.Test.YtbjmfhlkmklmmaaLawE
import Derived.Test.YtbjmfhlkmklmmaaWkP
import Derived.Test.YtbjmfhlkmklmmaaThC
import Derived.Test.YtbjmfhlkmklmmaaMixU
/-  MendUpon. -/
namespace Go.Proofs.Ytbjmfhlkmklmmaa
open Go.RowKit

/-- a plate out of numbers is valid -/
theorem sized_vp {w h : Nat} (hs : sized w h) (ys : List Int) {most : Int} (hm : 0 ≤ most ∧ most ≤ 30) : vplate w h (sizedL ys most (w * h)) = 0 :=
  vplate_of hs (sizedL_len _ _ _) fun j hj => by rw [ofL_sizedL _ _ hj]; have := sizedN_range ys hm.1 j; omega
set_option maxRecDepth 100000 in
set_option maxHeartbeats 8000000 in
theorem LUpon_calls (w h : Int) (dv bv1 bv2 : Value) (d ys zs : List Int) (W : World) (hd : Ints W dv d) (hy1 : Byts W bv1 ys) (hy2 : Byts W bv2 zs) :
    Calls Try.prog 10 #[.agg #[.int .i64 w, .int .i64 h, dv], bv1, bv2] W (Gives (.bool true) W) := by
  have S : Ins W [] := Ins.nil _
  obtain ⟨a1, n1, c1, rfl⟩ : ∃ a n c, dv = .slice a n c := by obtain ⟨a, c, e⟩ := hd.form; exact ⟨a, _, c, e⟩
  have S := S.cons hd
  obtain ⟨a8, n8, c8, rfl⟩ : ∃ a n c, bv1 = .slice a n c := by obtain ⟨a, c, e⟩ := hy1.form; exact ⟨a, _, c, e⟩
  obtain ⟨a9, n9, c9, rfl⟩ : ∃ a n c, bv2 = .slice a n c := by obtain ⟨a, c, e⟩ := hy2.form; exact ⟨a, _, c, e⟩
  by_cases hv : vplate w h d = 0
  rotate_left
  · have hvb : (vplate w h d == 0) = false := by simpa using hv
    clear hv
    go_enter Try.func10, Try.ntmps10
    go_wp2_with fail
    obtain ⟨B1, hb⟩ : ∃ b, b = W.heap.size := ⟨_, rfl⟩
    have l1 : Lin (W.alloc (.cells #[.int .i64 w, .int .i64 h, .slice a1 n1 c1] 24)) B1 24 [.int .i64 w, .int .i64 h, .slice a1 n1 c1] := by rw [hb]; exact Lin.new _ _ [.int .i64 w, .int .i64 h, .slice a1 n1 c1]
    replace S := S.later (Later.new _ (.cells #[.int .i64 w, .int .i64 h, .slice a1 n1 c1] 24))
    rw [Later.new_w] at S
    replace hy1 := hy1.later (Later.new _ (.cells #[.int .i64 w, .int .i64 h, .slice a1 n1 c1] 24))
    rw [Later.new_w] at hy1
    replace hy2 := hy2.later (Later.new _ (.cells #[.int .i64 w, .int .i64 h, .slice a1 n1 c1] 24))
    rw [Later.new_w] at hy2
    have hsz : (W.alloc (.cells #[.int .i64 w, .int .i64 h, .slice a1 n1 c1] 24)).heap.size = B1 + 1 := by rw [hb]; simp
    obtain ⟨Y2, hZ⟩ : ∃ Z : Later W, Z.w = W.alloc (.cells #[.int .i64 w, .int .i64 h, .slice a1 n1 c1] 24) := ⟨Later.new _ _, rfl⟩
    rw [← hZ] at S hsz hy1 hy2 l1 ⊢
    clear hZ
    rw [← hb]
    clear hb
    clear hsz
    refine (fine_calls w h _ d _ (S.at (v := .slice a1 n1 c1) (xs := d) (by simp))).mono ?_
    rintro e w' ⟨rfl, y, rfl⟩
    rw [hvb]
    replace hy1 := hy1.later y
    replace hy2 := hy2.later y
    replace l1 := l1.later y
    replace S := S.later y
    obtain ⟨Y3, hZ⟩ : ∃ Z : Later W, Z.w = y.w := ⟨Y2.step (y), rfl⟩
    rw [← hZ] at S hy1 hy2 l1 ⊢
    clear hZ
    clear y
    have q0_0 := l1.cell (k := 0) rfl
    have q0_1 := l1.cell (k := 1) rfl
    have q0_2 := l1.cell (k := 2) rfl
    have q0_l := l1.lt
    go_wp2_with fail
    clear q0_0 q0_1 q0_2 q0_l
    refine (Works_calls _).mono ?_
    rintro e w' ⟨rfl, y, rfl⟩
    go_wp2
    go_ret
    exact ⟨rfl, Y3.step y, rfl⟩
  · obtain ⟨wn, hn, rfl, rfl, _⟩ := vplate_zero hv
    obtain ⟨hs, hl, hlo, hlow⟩ := valid_low hv
    obtain ⟨X, U, hm⟩ := ham_ex hs hl hlow
    have h36 : wn * hn ≤ 36 := Nat.mul_le_mul hs.2.1 hs.2.2.2
    have h1w : 1 ≤ wn * hn := Nat.mul_le_mul hs.1 hs.2.2.1
    have HV := Lib.hid hv
    have HL := Lib.hid hl
    have HLO := Lib.hid hlo
    have HLW := Lib.hid hlow
    have HM := Lib.hid hm
    have hvb : (vplate wn hn d == 0) = true := by rw [hv]; rfl
    have HN1 := Lib.hid (show n1 = d.length by obtain ⟨a, c, e⟩ := hd.form; cases e; rfl)
    clear hv hl hlo hlow hm
    go_enter Try.func10, Try.ntmps10
    go_wp2_with fail
    obtain ⟨B1, hb⟩ : ∃ b, b = W.heap.size := ⟨_, rfl⟩
    have l1 : Lin (W.alloc (.cells #[.int .i64 wn, .int .i64 hn, .slice a1 n1 c1] 24)) B1 24 [.int .i64 wn, .int .i64 hn, .slice a1 n1 c1] := by rw [hb]; exact Lin.new _ _ [.int .i64 wn, .int .i64 hn, .slice a1 n1 c1]
    replace S := S.later (Later.new _ (.cells #[.int .i64 wn, .int .i64 hn, .slice a1 n1 c1] 24))
    rw [Later.new_w] at S
    replace hy1 := hy1.later (Later.new _ (.cells #[.int .i64 wn, .int .i64 hn, .slice a1 n1 c1] 24))
    rw [Later.new_w] at hy1
    replace hy2 := hy2.later (Later.new _ (.cells #[.int .i64 wn, .int .i64 hn, .slice a1 n1 c1] 24))
    rw [Later.new_w] at hy2
    have hsz : (W.alloc (.cells #[.int .i64 wn, .int .i64 hn, .slice a1 n1 c1] 24)).heap.size = B1 + 1 := by rw [hb]; simp
    obtain ⟨Y2, hZ⟩ : ∃ Z : Later W, Z.w = W.alloc (.cells #[.int .i64 wn, .int .i64 hn, .slice a1 n1 c1] 24) := ⟨Later.new _ _, rfl⟩
    rw [← hZ] at S hsz hy1 hy2 l1 ⊢
    clear hZ
    rw [← hb]
    clear hb
    clear hsz
    refine (fine_calls wn hn _ d _ (S.at (v := .slice a1 n1 c1) (xs := d) (by simp))).mono ?_
    rintro e w' ⟨rfl, y, rfl⟩
    rw [hvb]
    clear hvb
    replace hy1 := hy1.later y
    replace hy2 := hy2.later y
    replace l1 := l1.later y
    replace S := S.later y
    obtain ⟨Y3, hZ⟩ : ∃ Z : Later W, Z.w = y.w := ⟨Y2.step (y), rfl⟩
    rw [← hZ] at S hy1 hy2 l1 ⊢
    clear hZ
    clear y
    by_cases h50 : 50 < n8
    · have q0_0 := l1.cell (k := 0) rfl
      have q0_1 := l1.cell (k := 1) rfl
      have q0_2 := l1.cell (k := 2) rfl
      have q0_l := l1.lt
      go_wp2_with fail
      clear q0_0 q0_1 q0_2 q0_l
      refine (Works_calls _).mono ?_
      rintro e w' ⟨rfl, y, rfl⟩
      go_wp2
      go_ret
      exact ⟨rfl, Y3.step y, rfl⟩
    · by_cases h51 : 50 < n9
      · have q0_0 := l1.cell (k := 0) rfl
        have q0_1 := l1.cell (k := 1) rfl
        have q0_2 := l1.cell (k := 2) rfl
        have q0_l := l1.lt
        go_wp2_with fail
        clear q0_0 q0_1 q0_2 q0_l
        refine (Works_calls _).mono ?_
        rintro e w' ⟨rfl, y, rfl⟩
        go_wp2
        go_ret
        exact ⟨rfl, Y3.step y, rfl⟩
      · have HD36 := Lib.hid (show d.length ≤ 36 by rw [HL.out]; exact h36)
        have q0_0 := l1.cell (k := 0) rfl
        have q0_1 := l1.cell (k := 1) rfl
        have q0_2 := l1.cell (k := 2) rfl
        have q0_l := l1.lt
        go_wp2
        refine MixU.region_mixL (Mix.kinds [6, 7] [2, 5] [8, 9]) (by kernel_rfl) (by kernel_rfl) ?_
        repeat ((with_reducible refine MixU.atCons ?_); first | refine MixU.skipU (by rfl) rfl (by rfl) ?_ | (refine MixU.val rfl rfl (by rfl) (fun K hK => ?_); go_big_quiet_op; refine hK _ ?_; clear hK K) | (refine Mix.skip (by rfl) ?_; go_frame))
        refine MixU.loud rfl (by rfl) (fun x1 K hK => ?_)
        go_wp2_with fail
        refine (sized_calls wn hn _ _ d ys 30 (by omega) _ ((S.at (v := .slice a1 n1 c1) (xs := d) (by simp)).later x1) (hy1.later x1) HD36.out).mono ?_
        rintro e w' ⟨v1, y1, rfl, rfl, hQ1⟩
        obtain ⟨aq1, nq1, cq1, rfl⟩ := hQ1.form'
        rw [HL.out] at hQ1
        refine hK _ y1 ?_
        clear hK K
        try go_frame
        repeat ((with_reducible refine MixU.atCons ?_); first | refine MixU.skipU (by rfl) rfl (by rfl) ?_ | (refine MixU.val rfl rfl (by rfl) (fun K hK => ?_); go_big_quiet_op; refine hK _ ?_; clear hK K) | (refine Mix.skip (by rfl) ?_; go_frame))
        refine MixU.loud rfl (by rfl) (fun x2 K hK => ?_)
        go_wp2_with fail
        refine (sized_calls wn hn _ _ d zs 30 (by omega) _ ((((S.at (v := .slice a1 n1 c1) (xs := d) (by simp)).later x1).later y1).later x2) (((hy2.later x1).later y1).later x2) HD36.out).mono ?_
        rintro e w' ⟨v2, y2, rfl, rfl, hQ2⟩
        obtain ⟨aq2, nq2, cq2, rfl⟩ := hQ2.form'
        rw [HL.out] at hQ2
        refine hK _ y2 ?_
        clear hK K
        try go_frame
        repeat ((with_reducible refine MixU.atCons ?_); first | refine MixU.skipU (by rfl) rfl (by rfl) ?_ | (refine MixU.val rfl rfl (by rfl) (fun K hK => ?_); go_big_quiet_op; refine hK _ ?_; clear hK K) | (refine Mix.skip (by rfl) ?_; go_frame))
        refine MixU.new rfl (by rfl) (fun b => .pointer (some ⟨b, 0, none⟩)) (.cells #[.int .i64 0, .int .i64 0, .slice none 0 0] 24) (fun w => by simp [go_sem]) (fun T1 t1 hT1 hu1 hxT1 => ?_)
        refine MixU.new rfl (by rfl) (fun b => .pointer (some ⟨b, 0, none⟩)) (.cells #[.int .i64 0, .int .i64 0, .slice none 0 0] 24) (fun w => by simp [go_sem]) (fun T2 t2 hT2 hu2 hxT2 => ?_)
        try go_frame
        repeat ((with_reducible refine MixU.atCons ?_); first | refine MixU.skipU (by rfl) rfl (by rfl) ?_ | (refine MixU.val rfl rfl (by rfl) (fun K hK => ?_); go_big_quiet_op; refine hK _ ?_; clear hK K) | (refine Mix.skip (by rfl) ?_; go_frame))
        have hT12 : T1 ≠ T2 := fun e => hu2 (.inl e.symm)
        clear hu1 hu2
        refine MixU.lastR rfl (by rfl) (by decide) (fun x4 K hK => ?_)
        have M1 := (((((hQ1.later x2).later y2).later t1).later t2).later x4)
        have M2 := (((hQ2.later t1).later t2).later x4)
        have k1 := (((show Lin t1.w T1 24 [.int .i64 0, .int .i64 0, .slice none 0 0] from hxT1).later t2).later x4)
        have k2 := ((show Lin t2.w T2 24 [.int .i64 0, .int .i64 0, .slice none 0 0] from hxT2).later x4)
        have t0 := k1.cell (k := 0) rfl
        have t1' := k1.cell (k := 1) rfl
        have t2' := k1.cell (k := 2) rfl
        have f0 := k1.frozen 0
        have f1 := k1.frozen 1
        have f2 := k1.frozen 2
        have tl := k1.lt
        have n11 := M1.ne_plate k1
        have n12 := M1.ne_plate k2
        have n21 := M2.ne_plate k1
        have n22 := M2.ne_plate k2
        have hB4 : Below Y3.w.heap.size Y3.w x4.w := (x1.step (y1.step (x2.step (y2.step (t1.step (t2.step (x4))))))).le
        have HB := Lib.hid (((hB4.setCell (p := ⟨T1, 0, none⟩) hT1 (.int .i64 wn)).setCell (p := ⟨T1, 1, none⟩) hT1 (.int .i64 hn)).setCell (p := ⟨T1, 2, none⟩) hT1 (.slice aq1 nq1 cq1))
        have HK1 := Lib.hid (((k1.set 0 (.int .i64 wn)).set 1 (.int .i64 hn)).set 2 (.slice aq1 nq1 cq1))
        have HK2 := Lib.hid (((k2.other (b := T1) (k := 0) hT12.symm (.int .i64 wn)).other (b := T1) (k := 1) hT12.symm (.int .i64 hn)).other (b := T1) (k := 2) hT12.symm (.slice aq1 nq1 cq1))
        have HM1 := Lib.hid (((M1.kept (grownBy_setCell_at x4.w T1 0 (.int .i64 wn)) (.inr n11)).kept (grownBy_setCell_at _ T1 1 (.int .i64 hn)) (.inr n11)).kept (grownBy_setCell_at _ T1 2 (.slice aq1 nq1 cq1)) (.inr n11))
        have HM2 := Lib.hid (((M2.kept (grownBy_setCell_at x4.w T1 0 (.int .i64 wn)) (.inr n21)).kept (grownBy_setCell_at _ T1 1 (.int .i64 hn)) (.inr n21)).kept (grownBy_setCell_at _ T1 2 (.slice aq1 nq1 cq1)) (.inr n21))
        clear q0_0 q0_1 q0_2 q0_l M1 M2 k1 k2 hB4 hQ1 hQ2 hxT1 hxT2
        go_wp2_with fail
        clear t0 t1' t2' f0 f1 f2 tl
        refine MixU.last rfl (by rfl) (fun x5 K hK => ?_)
        have k2 := HK2.out.later x5
        have t0 := k2.cell (k := 0) rfl
        have t1' := k2.cell (k := 1) rfl
        have t2' := k2.cell (k := 2) rfl
        have f0 := k2.frozen 0
        have f1 := k2.frozen 1
        have f2 := k2.frozen 2
        have tl := k2.lt
        have hB5 := HB.out.trans (x5.le.mono HB.out.size)
        have HB2 := Lib.hid (((hB5.setCell (p := ⟨T2, 0, none⟩) hT2 (.int .i64 wn)).setCell (p := ⟨T2, 1, none⟩) hT2 (.int .i64 hn)).setCell (p := ⟨T2, 2, none⟩) hT2 (.slice aq2 nq2 cq2))
        have HL1 := Lib.hid ((((HK1.out.later x5).other (b := T2) (k := 0) hT12 (.int .i64 wn)).other (b := T2) (k := 1) hT12 (.int .i64 hn)).other (b := T2) (k := 2) hT12 (.slice aq2 nq2 cq2))
        have HL2 := Lib.hid (((k2.set 0 (.int .i64 wn)).set 1 (.int .i64 hn)).set 2 (.slice aq2 nq2 cq2))
        have HN1' := Lib.hid ((((HM1.out.later x5).kept (grownBy_setCell_at x5.w T2 0 (.int .i64 wn)) (.inr n12)).kept (grownBy_setCell_at _ T2 1 (.int .i64 hn)) (.inr n12)).kept (grownBy_setCell_at _ T2 2 (.slice aq2 nq2 cq2)) (.inr n12))
        have HN2' := Lib.hid ((((HM2.out.later x5).kept (grownBy_setCell_at x5.w T2 0 (.int .i64 wn)) (.inr n22)).kept (grownBy_setCell_at _ T2 1 (.int .i64 hn)) (.inr n22)).kept (grownBy_setCell_at _ T2 2 (.slice aq2 nq2 cq2)) (.inr n22))
        clear k2 hB5 HK1 HK2 HM1 HM2 HB
        go_wp2_with fail
        clear t0 t1' t2' f0 f1 f2 tl
        refine MixU.done (fun y => ?_)
        obtain ⟨V1, hV1⟩ : ∃ V1 : Later Y3.w, V1.w = y.w := ⟨⟨y.w, HB2.out.trans (y.le.mono HB2.out.size)⟩, rfl⟩
        have lq : Lin V1.w T1 24 [.int .i64 wn, .int .i64 hn, .slice aq1 nq1 cq1] := by rw [hV1]; exact HL1.out.later y
        have lr : Lin V1.w T2 24 [.int .i64 wn, .int .i64 hn, .slice aq2 nq2 cq2] := by rw [hV1]; exact HL2.out.later y
        have hq : Ints V1.w (.slice aq1 nq1 cq1) (sizedL ys 30 (wn * hn)) := by rw [hV1]; exact (HN1'.out.later y).ints (by rw [sizedL_len]; omega)
        have hr : Ints V1.w (.slice aq2 nq2 cq2) (sizedL zs 30 (wn * hn)) := by rw [hV1]; exact (HN2'.out.later y).ints (by rw [sizedL_len]; omega)
        rw [← hV1]
        clear hV1 HL1 HL2 HN1' HN2' HB2 n11 n12 n21 n22 hT12 hT1 hT2
        clear y
        obtain ⟨q, hqe⟩ : ∃ q, sizedL ys 30 (wn * hn) = q := ⟨_, rfl⟩
        obtain ⟨r, hre⟩ : ∃ r, sizedL zs 30 (wn * hn) = r := ⟨_, rfl⟩
        have HVQ : Hid (vplate wn hn q = 0) := by rw [← hqe]; exact sized_vp hs ys (by omega)
        have HVR : Hid (vplate wn hn r = 0) := by rw [← hre]; exact sized_vp hs zs (by omega)
        rw [hqe] at hq
        rw [hre] at hr
        clear hqe hre
        replace hy1 := hy1.later V1
        replace hy2 := hy2.later V1
        replace l1 := l1.later V1
        replace S := ((S.later V1).cons hq).cons hr
        clear hq hr
        obtain ⟨Y4, hZ⟩ : ∃ Z : Later W, Z.w = V1.w := ⟨Y3.step (V1), rfl⟩
        rw [← hZ] at S hy1 hy2 l1 lq lr ⊢
        clear hZ
        have lq1 := (valid_low HVQ.out)
        have lr1 := (valid_low HVR.out)
        obtain ⟨PQ, u1, m1⟩ := ham_ex hs (d := sumL d q) (by rw [sumL_len]; exact HL.out) (sumL_low HL.out HLO.out lq1.2.2.1)
        obtain ⟨QP, u2, m2⟩ := ham_ex hs (d := sumL q d) (by rw [sumL_len]; exact lq1.2.1) (sumL_low lq1.2.1 lq1.2.2.1 HLO.out)
        obtain ⟨QR, u3, m3⟩ := ham_ex hs (d := sumL q r) (by rw [sumL_len]; exact lq1.2.1) (sumL_low lq1.2.1 lq1.2.2.1 lr1.2.2.1)
        have w1 : Hid (vplate wn hn PQ = 0 ∧ low wn hn (sumL d q) ∧ low wn hn (sumL PQ r)) := ⟨m1.vp hs (sumL_low HL.out HLO.out lq1.2.2.1), (sumL_low HL.out HLO.out lq1.2.2.1), sumL_low m1.lenX (fun j hj => by have := m1.range (sumL_low HL.out HLO.out lq1.2.2.1) j hj; omega) lr1.2.2.1⟩
        have w3 : Hid (vplate wn hn QR = 0 ∧ low wn hn (sumL q r) ∧ low wn hn (sumL d QR)) := ⟨m3.vp hs (sumL_low lq1.2.1 lq1.2.2.1 lr1.2.2.1), (sumL_low lq1.2.1 lq1.2.2.1 lr1.2.2.1), sumL_low HL.out HLO.out (fun j hj => by have := m3.range (sumL_low lq1.2.1 lq1.2.2.1 lr1.2.2.1) j hj; omega)⟩
        have w6 : Hid (vplate wn hn X = 0 ∧ low wn hn (sumL X q) ∧ low wn hn (sumL q d)) := ⟨HM.out.vp hs HLW.out, sumL_low HM.out.lenX (fun j hj => by have := HM.out.range HLW.out j hj; omega) lq1.2.2.1, sumL_low lq1.2.1 lq1.2.2.1 HLO.out⟩
        obtain ⟨A, u4, m4⟩ := ham_ex hs (d := sumL PQ r) (by rw [sumL_len]; exact m1.lenX) w1.out.2.2
        obtain ⟨A', u5, m5⟩ := ham_ex hs (d := sumL d QR) (by rw [sumL_len]; exact HL.out) w3.out.2.2
        obtain ⟨C, u6, m6⟩ := ham_ex hs (d := sumL X q) (by rw [sumL_len]; exact HM.out.lenX) w6.out.2.1
        obtain ⟨rfl, rfl, rfl⟩ := upon_laws HLW.out lq1.2.2.2 lr1.2.2.2 HL.out lq1.2.1 lr1.2.1 m1 m2 m3 m4 m5 HM.out m6
        have K1 := Lib.hid m1
        have K2 := Lib.hid m2
        have K3 := Lib.hid m3
        have K4 := Lib.hid m4
        have K5 := Lib.hid m5
        have K6 := Lib.hid m6
        clear m1 m2 m3 m4 m5 m6 lq1 lr1 h50 h51
        have q0_0 := l1.cell (k := 0) rfl
        have q0_1 := l1.cell (k := 1) rfl
        have q0_2 := l1.cell (k := 2) rfl
        have q0_l := l1.lt
        have q1_0 := lq.cell (k := 0) rfl
        have q1_1 := lq.cell (k := 1) rfl
        have q1_2 := lq.cell (k := 2) rfl
        have q1_l := lq.lt
        go_wp2_with fail
        clear q0_0 q0_1 q0_2 q0_l
        clear q1_0 q1_1 q1_2 q1_l
        refine (upon_calls wn hn _ _ d q C u1 _ (S.at (v := .slice a1 n1 c1) (xs := d) (by simp)) (S.at (v := .slice aq1 nq1 cq1) (xs := q) (by simp)) HV.out HVQ.out K1.out w1.out.2.1).mono ?_
        rintro e w' ⟨v, y, rfl, rfl, hR⟩
        replace hy1 := hy1.later y
        replace hy2 := hy2.later y
        replace l1 := l1.later y
        replace lq := lq.later y
        replace lr := lr.later y
        replace S := S.later y
        obtain ⟨a5, n5, c5, rfl⟩ : ∃ a n c, v = .slice a n c := by obtain ⟨a, c, e⟩ := hR.form; exact ⟨a, _, c, e⟩
        replace S := S.cons hR
        obtain ⟨Y6, hZ⟩ : ∃ Z : Later W, Z.w = y.w := ⟨Y4.step (y), rfl⟩
        rw [← hZ] at S hy1 hy2 l1 lq lr ⊢
        clear hZ
        clear y hR
        have q0_0 := l1.cell (k := 0) rfl
        have q0_1 := l1.cell (k := 1) rfl
        have q0_2 := l1.cell (k := 2) rfl
        have q0_l := l1.lt
        have q1_0 := lq.cell (k := 0) rfl
        have q1_1 := lq.cell (k := 1) rfl
        have q1_2 := lq.cell (k := 2) rfl
        have q1_l := lq.lt
        go_wp2_with fail
        clear q0_0 q0_1 q0_2 q0_l
        clear q1_0 q1_1 q1_2 q1_l
        obtain ⟨B7, hb⟩ : ∃ b, b = Y6.w.heap.size := ⟨_, rfl⟩
        have l7 : Lin (Y6.w.alloc (.cells #[.int .i64 wn, .int .i64 hn, .slice a5 n5 c5] 24)) B7 24 [.int .i64 wn, .int .i64 hn, .slice a5 n5 c5] := by rw [hb]; exact Lin.new _ _ [.int .i64 wn, .int .i64 hn, .slice a5 n5 c5]
        replace S := S.later (Later.new _ (.cells #[.int .i64 wn, .int .i64 hn, .slice a5 n5 c5] 24))
        rw [Later.new_w] at S
        replace hy1 := hy1.later (Later.new _ (.cells #[.int .i64 wn, .int .i64 hn, .slice a5 n5 c5] 24))
        rw [Later.new_w] at hy1
        replace hy2 := hy2.later (Later.new _ (.cells #[.int .i64 wn, .int .i64 hn, .slice a5 n5 c5] 24))
        rw [Later.new_w] at hy2
        replace l1 := l1.later (Later.new _ (.cells #[.int .i64 wn, .int .i64 hn, .slice a5 n5 c5] 24))
        rw [Later.new_w] at l1
        replace lq := lq.later (Later.new _ (.cells #[.int .i64 wn, .int .i64 hn, .slice a5 n5 c5] 24))
        rw [Later.new_w] at lq
        replace lr := lr.later (Later.new _ (.cells #[.int .i64 wn, .int .i64 hn, .slice a5 n5 c5] 24))
        rw [Later.new_w] at lr
        have hsz : (Y6.w.alloc (.cells #[.int .i64 wn, .int .i64 hn, .slice a5 n5 c5] 24)).heap.size = B7 + 1 := by rw [hb]; simp
        obtain ⟨Y8, hZ⟩ : ∃ Z : Later W, Z.w = Y6.w.alloc (.cells #[.int .i64 wn, .int .i64 hn, .slice a5 n5 c5] 24) := ⟨Y6.step (Later.new _ _), rfl⟩
        rw [← hZ] at S hsz hy1 hy2 l1 lq lr l7 ⊢
        clear hZ
        rw [← hb]
        clear hb
        clear hsz
        refine (upon_calls wn hn _ _ q d C u2 _ (S.at (v := .slice aq1 nq1 cq1) (xs := q) (by simp)) (S.at (v := .slice a1 n1 c1) (xs := d) (by simp)) HVQ.out HV.out K2.out w6.out.2.2).mono ?_
        rintro e w' ⟨v, y, rfl, rfl, hR⟩
        replace hy1 := hy1.later y
        replace hy2 := hy2.later y
        replace l1 := l1.later y
        replace lq := lq.later y
        replace lr := lr.later y
        replace l7 := l7.later y
        replace S := S.later y
        obtain ⟨a9, n9, c9, rfl⟩ : ∃ a n c, v = .slice a n c := by obtain ⟨a, c, e⟩ := hR.form; exact ⟨a, _, c, e⟩
        replace S := S.cons hR
        obtain ⟨Y10, hZ⟩ : ∃ Z : Later W, Z.w = y.w := ⟨Y8.step (y), rfl⟩
        rw [← hZ] at S hy1 hy2 l1 lq lr l7 ⊢
        clear hZ
        clear y hR
        have q0_0 := l7.cell (k := 0) rfl
        have q0_1 := l7.cell (k := 1) rfl
        have q0_2 := l7.cell (k := 2) rfl
        have q0_l := l7.lt
        go_wp2_with fail
        clear q0_0 q0_1 q0_2 q0_l
        obtain ⟨B11, hb⟩ : ∃ b, b = Y10.w.heap.size := ⟨_, rfl⟩
        have l11 : Lin (Y10.w.alloc (.cells #[.int .i64 wn, .int .i64 hn, .slice a9 n9 c9] 24)) B11 24 [.int .i64 wn, .int .i64 hn, .slice a9 n9 c9] := by rw [hb]; exact Lin.new _ _ [.int .i64 wn, .int .i64 hn, .slice a9 n9 c9]
        replace S := S.later (Later.new _ (.cells #[.int .i64 wn, .int .i64 hn, .slice a9 n9 c9] 24))
        rw [Later.new_w] at S
        replace hy1 := hy1.later (Later.new _ (.cells #[.int .i64 wn, .int .i64 hn, .slice a9 n9 c9] 24))
        rw [Later.new_w] at hy1
        replace hy2 := hy2.later (Later.new _ (.cells #[.int .i64 wn, .int .i64 hn, .slice a9 n9 c9] 24))
        rw [Later.new_w] at hy2
        replace l1 := l1.later (Later.new _ (.cells #[.int .i64 wn, .int .i64 hn, .slice a9 n9 c9] 24))
        rw [Later.new_w] at l1
        replace lq := lq.later (Later.new _ (.cells #[.int .i64 wn, .int .i64 hn, .slice a9 n9 c9] 24))
        rw [Later.new_w] at lq
        replace lr := lr.later (Later.new _ (.cells #[.int .i64 wn, .int .i64 hn, .slice a9 n9 c9] 24))
        rw [Later.new_w] at lr
        replace l7 := l7.later (Later.new _ (.cells #[.int .i64 wn, .int .i64 hn, .slice a9 n9 c9] 24))
        rw [Later.new_w] at l7
        have hsz : (Y10.w.alloc (.cells #[.int .i64 wn, .int .i64 hn, .slice a9 n9 c9] 24)).heap.size = B11 + 1 := by rw [hb]; simp
        obtain ⟨Y12, hZ⟩ : ∃ Z : Later W, Z.w = Y10.w.alloc (.cells #[.int .i64 wn, .int .i64 hn, .slice a9 n9 c9] 24) := ⟨Y10.step (Later.new _ _), rfl⟩
        rw [← hZ] at S hsz hy1 hy2 l1 lq lr l7 l11 ⊢
        clear hZ
        rw [← hb]
        clear hb
        clear hsz
        refine (Longs_calls _ _ C C _ (S.at (v := .slice a5 n5 c5) (xs := C) (by simp)) (S.at (v := .slice a9 n9 c9) (xs := C) (by simp))).mono ?_
        rintro e w' ⟨rfl, y, rfl⟩
        rw [eqI_self]
        replace hy1 := hy1.later y
        replace hy2 := hy2.later y
        replace l1 := l1.later y
        replace lq := lq.later y
        replace lr := lr.later y
        replace l7 := l7.later y
        replace l11 := l11.later y
        replace S := S.later y
        obtain ⟨Y13, hZ⟩ : ∃ Z : Later W, Z.w = y.w := ⟨Y12.step (y), rfl⟩
        rw [← hZ] at S hy1 hy2 l1 lq lr l7 l11 ⊢
        clear hZ
        clear y
        have q0_0 := lq.cell (k := 0) rfl
        have q0_1 := lq.cell (k := 1) rfl
        have q0_2 := lq.cell (k := 2) rfl
        have q0_l := lq.lt
        have q1_0 := lr.cell (k := 0) rfl
        have q1_1 := lr.cell (k := 1) rfl
        have q1_2 := lr.cell (k := 2) rfl
        have q1_l := lr.lt
        go_wp2_with fail
        clear q0_0 q0_1 q0_2 q0_l
        clear q1_0 q1_1 q1_2 q1_l
        refine (upon_calls wn hn _ _ q r QR u3 _ (S.at (v := .slice aq1 nq1 cq1) (xs := q) (by simp)) (S.at (v := .slice aq2 nq2 cq2) (xs := r) (by simp)) HVQ.out HVR.out K3.out w3.out.2.1).mono ?_
        rintro e w' ⟨v, y, rfl, rfl, hR⟩
        replace hy1 := hy1.later y
        replace hy2 := hy2.later y
        replace l1 := l1.later y
        replace lq := lq.later y
        replace lr := lr.later y
        replace l7 := l7.later y
        replace l11 := l11.later y
        replace S := S.later y
        obtain ⟨a14, n14, c14, rfl⟩ : ∃ a n c, v = .slice a n c := by obtain ⟨a, c, e⟩ := hR.form; exact ⟨a, _, c, e⟩
        replace S := S.cons hR
        obtain ⟨Y15, hZ⟩ : ∃ Z : Later W, Z.w = y.w := ⟨Y13.step (y), rfl⟩
        rw [← hZ] at S hy1 hy2 l1 lq lr l7 l11 ⊢
        clear hZ
        clear y hR
        have q0_0 := l7.cell (k := 0) rfl
        have q0_1 := l7.cell (k := 1) rfl
        have q0_2 := l7.cell (k := 2) rfl
        have q0_l := l7.lt
        have q1_0 := lr.cell (k := 0) rfl
        have q1_1 := lr.cell (k := 1) rfl
        have q1_2 := lr.cell (k := 2) rfl
        have q1_l := lr.lt
        go_wp2_with fail
        clear q0_0 q0_1 q0_2 q0_l
        clear q1_0 q1_1 q1_2 q1_l
        obtain ⟨B16, hb⟩ : ∃ b, b = Y15.w.heap.size := ⟨_, rfl⟩
        have l16 : Lin (Y15.w.alloc (.cells #[.int .i64 wn, .int .i64 hn, .slice a14 n14 c14] 24)) B16 24 [.int .i64 wn, .int .i64 hn, .slice a14 n14 c14] := by rw [hb]; exact Lin.new _ _ [.int .i64 wn, .int .i64 hn, .slice a14 n14 c14]
        replace S := S.later (Later.new _ (.cells #[.int .i64 wn, .int .i64 hn, .slice a14 n14 c14] 24))
        rw [Later.new_w] at S
        replace hy1 := hy1.later (Later.new _ (.cells #[.int .i64 wn, .int .i64 hn, .slice a14 n14 c14] 24))
        rw [Later.new_w] at hy1
        replace hy2 := hy2.later (Later.new _ (.cells #[.int .i64 wn, .int .i64 hn, .slice a14 n14 c14] 24))
        rw [Later.new_w] at hy2
        replace l1 := l1.later (Later.new _ (.cells #[.int .i64 wn, .int .i64 hn, .slice a14 n14 c14] 24))
        rw [Later.new_w] at l1
        replace lq := lq.later (Later.new _ (.cells #[.int .i64 wn, .int .i64 hn, .slice a14 n14 c14] 24))
        rw [Later.new_w] at lq
        replace lr := lr.later (Later.new _ (.cells #[.int .i64 wn, .int .i64 hn, .slice a14 n14 c14] 24))
        rw [Later.new_w] at lr
        replace l7 := l7.later (Later.new _ (.cells #[.int .i64 wn, .int .i64 hn, .slice a14 n14 c14] 24))
        rw [Later.new_w] at l7
        replace l11 := l11.later (Later.new _ (.cells #[.int .i64 wn, .int .i64 hn, .slice a14 n14 c14] 24))
        rw [Later.new_w] at l11
        have hsz : (Y15.w.alloc (.cells #[.int .i64 wn, .int .i64 hn, .slice a14 n14 c14] 24)).heap.size = B16 + 1 := by rw [hb]; simp
        obtain ⟨Y17, hZ⟩ : ∃ Z : Later W, Z.w = Y15.w.alloc (.cells #[.int .i64 wn, .int .i64 hn, .slice a14 n14 c14] 24) := ⟨Y15.step (Later.new _ _), rfl⟩
        rw [← hZ] at S hsz hy1 hy2 l1 lq lr l7 l11 l16 ⊢
        clear hZ
        rw [← hb]
        clear hb
        clear hsz
        refine (upon_calls wn hn _ _ C r A u4 _ (S.at (v := .slice a5 n5 c5) (xs := C) (by simp)) (S.at (v := .slice aq2 nq2 cq2) (xs := r) (by simp)) w1.out.1 HVR.out K4.out w1.out.2.2).mono ?_
        rintro e w' ⟨v, y, rfl, rfl, hR⟩
        replace hy1 := hy1.later y
        replace hy2 := hy2.later y
        replace l1 := l1.later y
        replace lq := lq.later y
        replace lr := lr.later y
        replace l7 := l7.later y
        replace l11 := l11.later y
        replace l16 := l16.later y
        replace S := S.later y
        obtain ⟨a18, n18, c18, rfl⟩ : ∃ a n c, v = .slice a n c := by obtain ⟨a, c, e⟩ := hR.form; exact ⟨a, _, c, e⟩
        replace S := S.cons hR
        obtain ⟨Y19, hZ⟩ : ∃ Z : Later W, Z.w = y.w := ⟨Y17.step (y), rfl⟩
        rw [← hZ] at S hy1 hy2 l1 lq lr l7 l11 l16 ⊢
        clear hZ
        clear y hR
        have q0_0 := l1.cell (k := 0) rfl
        have q0_1 := l1.cell (k := 1) rfl
        have q0_2 := l1.cell (k := 2) rfl
        have q0_l := l1.lt
        have q1_0 := l16.cell (k := 0) rfl
        have q1_1 := l16.cell (k := 1) rfl
        have q1_2 := l16.cell (k := 2) rfl
        have q1_l := l16.lt
        go_wp2_with fail
        clear q0_0 q0_1 q0_2 q0_l
        clear q1_0 q1_1 q1_2 q1_l
        obtain ⟨B20, hb⟩ : ∃ b, b = Y19.w.heap.size := ⟨_, rfl⟩
        have l20 : Lin (Y19.w.alloc (.cells #[.int .i64 wn, .int .i64 hn, .slice a18 n18 c18] 24)) B20 24 [.int .i64 wn, .int .i64 hn, .slice a18 n18 c18] := by rw [hb]; exact Lin.new _ _ [.int .i64 wn, .int .i64 hn, .slice a18 n18 c18]
        replace S := S.later (Later.new _ (.cells #[.int .i64 wn, .int .i64 hn, .slice a18 n18 c18] 24))
        rw [Later.new_w] at S
        replace hy1 := hy1.later (Later.new _ (.cells #[.int .i64 wn, .int .i64 hn, .slice a18 n18 c18] 24))
        rw [Later.new_w] at hy1
        replace hy2 := hy2.later (Later.new _ (.cells #[.int .i64 wn, .int .i64 hn, .slice a18 n18 c18] 24))
        rw [Later.new_w] at hy2
        replace l1 := l1.later (Later.new _ (.cells #[.int .i64 wn, .int .i64 hn, .slice a18 n18 c18] 24))
        rw [Later.new_w] at l1
        replace lq := lq.later (Later.new _ (.cells #[.int .i64 wn, .int .i64 hn, .slice a18 n18 c18] 24))
        rw [Later.new_w] at lq
        replace lr := lr.later (Later.new _ (.cells #[.int .i64 wn, .int .i64 hn, .slice a18 n18 c18] 24))
        rw [Later.new_w] at lr
        replace l7 := l7.later (Later.new _ (.cells #[.int .i64 wn, .int .i64 hn, .slice a18 n18 c18] 24))
        rw [Later.new_w] at l7
        replace l11 := l11.later (Later.new _ (.cells #[.int .i64 wn, .int .i64 hn, .slice a18 n18 c18] 24))
        rw [Later.new_w] at l11
        replace l16 := l16.later (Later.new _ (.cells #[.int .i64 wn, .int .i64 hn, .slice a18 n18 c18] 24))
        rw [Later.new_w] at l16
        have hsz : (Y19.w.alloc (.cells #[.int .i64 wn, .int .i64 hn, .slice a18 n18 c18] 24)).heap.size = B20 + 1 := by rw [hb]; simp
        obtain ⟨Y21, hZ⟩ : ∃ Z : Later W, Z.w = Y19.w.alloc (.cells #[.int .i64 wn, .int .i64 hn, .slice a18 n18 c18] 24) := ⟨Y19.step (Later.new _ _), rfl⟩
        rw [← hZ] at S hsz hy1 hy2 l1 lq lr l7 l11 l16 l20 ⊢
        clear hZ
        rw [← hb]
        clear hb
        clear hsz
        refine (upon_calls wn hn _ _ d QR A u5 _ (S.at (v := .slice a1 n1 c1) (xs := d) (by simp)) (S.at (v := .slice a14 n14 c14) (xs := QR) (by simp)) HV.out w3.out.1 K5.out w3.out.2.2).mono ?_
        rintro e w' ⟨v, y, rfl, rfl, hR⟩
        replace hy1 := hy1.later y
        replace hy2 := hy2.later y
        replace l1 := l1.later y
        replace lq := lq.later y
        replace lr := lr.later y
        replace l7 := l7.later y
        replace l11 := l11.later y
        replace l16 := l16.later y
        replace l20 := l20.later y
        replace S := S.later y
        obtain ⟨a22, n22, c22, rfl⟩ : ∃ a n c, v = .slice a n c := by obtain ⟨a, c, e⟩ := hR.form; exact ⟨a, _, c, e⟩
        replace S := S.cons hR
        obtain ⟨Y23, hZ⟩ : ∃ Z : Later W, Z.w = y.w := ⟨Y21.step (y), rfl⟩
        rw [← hZ] at S hy1 hy2 l1 lq lr l7 l11 l16 l20 ⊢
        clear hZ
        clear y hR
        have q0_0 := l1.cell (k := 0) rfl
        have q0_1 := l1.cell (k := 1) rfl
        have q0_2 := l1.cell (k := 2) rfl
        have q0_l := l1.lt
        go_wp2_with fail
        clear q0_0 q0_1 q0_2 q0_l
        obtain ⟨B24, hb⟩ : ∃ b, b = Y23.w.heap.size := ⟨_, rfl⟩
        have l24 : Lin (Y23.w.alloc (.cells #[.int .i64 wn, .int .i64 hn, .slice a22 n22 c22] 24)) B24 24 [.int .i64 wn, .int .i64 hn, .slice a22 n22 c22] := by rw [hb]; exact Lin.new _ _ [.int .i64 wn, .int .i64 hn, .slice a22 n22 c22]
        replace S := S.later (Later.new _ (.cells #[.int .i64 wn, .int .i64 hn, .slice a22 n22 c22] 24))
        rw [Later.new_w] at S
        replace hy1 := hy1.later (Later.new _ (.cells #[.int .i64 wn, .int .i64 hn, .slice a22 n22 c22] 24))
        rw [Later.new_w] at hy1
        replace hy2 := hy2.later (Later.new _ (.cells #[.int .i64 wn, .int .i64 hn, .slice a22 n22 c22] 24))
        rw [Later.new_w] at hy2
        replace l1 := l1.later (Later.new _ (.cells #[.int .i64 wn, .int .i64 hn, .slice a22 n22 c22] 24))
        rw [Later.new_w] at l1
        replace lq := lq.later (Later.new _ (.cells #[.int .i64 wn, .int .i64 hn, .slice a22 n22 c22] 24))
        rw [Later.new_w] at lq
        replace lr := lr.later (Later.new _ (.cells #[.int .i64 wn, .int .i64 hn, .slice a22 n22 c22] 24))
        rw [Later.new_w] at lr
        replace l7 := l7.later (Later.new _ (.cells #[.int .i64 wn, .int .i64 hn, .slice a22 n22 c22] 24))
        rw [Later.new_w] at l7
        replace l11 := l11.later (Later.new _ (.cells #[.int .i64 wn, .int .i64 hn, .slice a22 n22 c22] 24))
        rw [Later.new_w] at l11
        replace l16 := l16.later (Later.new _ (.cells #[.int .i64 wn, .int .i64 hn, .slice a22 n22 c22] 24))
        rw [Later.new_w] at l16
        replace l20 := l20.later (Later.new _ (.cells #[.int .i64 wn, .int .i64 hn, .slice a22 n22 c22] 24))
        rw [Later.new_w] at l20
        have hsz : (Y23.w.alloc (.cells #[.int .i64 wn, .int .i64 hn, .slice a22 n22 c22] 24)).heap.size = B24 + 1 := by rw [hb]; simp
        obtain ⟨Y25, hZ⟩ : ∃ Z : Later W, Z.w = Y23.w.alloc (.cells #[.int .i64 wn, .int .i64 hn, .slice a22 n22 c22] 24) := ⟨Y23.step (Later.new _ _), rfl⟩
        rw [← hZ] at S hsz hy1 hy2 l1 lq lr l7 l11 l16 l20 l24 ⊢
        clear hZ
        rw [← hb]
        clear hb
        clear hsz
        refine (flat_calls wn hn _ d X U _ (S.at (v := .slice a1 n1 c1) (xs := d) (by simp)) HV.out HM.out).mono ?_
        rintro e w' ⟨v, u, y, rfl, rfl, hR, hU⟩
        replace hy1 := hy1.later y
        replace hy2 := hy2.later y
        replace l1 := l1.later y
        replace lq := lq.later y
        replace lr := lr.later y
        replace l7 := l7.later y
        replace l11 := l11.later y
        replace l16 := l16.later y
        replace l20 := l20.later y
        replace l24 := l24.later y
        replace S := S.later y
        obtain ⟨a26, n26, c26, rfl⟩ : ∃ a n c, v = .slice a n c := by obtain ⟨a, c, e⟩ := hR.form; exact ⟨a, _, c, e⟩
        replace S := S.cons hR
        obtain ⟨a27, n27, c27, rfl⟩ : ∃ a n c, u = .slice a n c := by obtain ⟨a, c, e⟩ := hU.form; exact ⟨a, _, c, e⟩
        replace S := S.cons hU
        obtain ⟨Y28, hZ⟩ : ∃ Z : Later W, Z.w = y.w := ⟨Y25.step (y), rfl⟩
        rw [← hZ] at S hy1 hy2 l1 lq lr l7 l11 l16 l20 l24 ⊢
        clear hZ
        clear y hR hU
        have q0_0 := l20.cell (k := 0) rfl
        have q0_1 := l20.cell (k := 1) rfl
        have q0_2 := l20.cell (k := 2) rfl
        have q0_l := l20.lt
        have q1_0 := l24.cell (k := 0) rfl
        have q1_1 := l24.cell (k := 1) rfl
        have q1_2 := l24.cell (k := 2) rfl
        have q1_l := l24.lt
        go_wp2_with fail
        clear q0_0 q0_1 q0_2 q0_l
        clear q1_0 q1_1 q1_2 q1_l
        obtain ⟨B29, hb⟩ : ∃ b, b = Y28.w.heap.size := ⟨_, rfl⟩
        have l29 : Lin (Y28.w.alloc (.cells #[.int .i64 wn, .int .i64 hn, .slice a26 n26 c26] 24)) B29 24 [.int .i64 wn, .int .i64 hn, .slice a26 n26 c26] := by rw [hb]; exact Lin.new _ _ [.int .i64 wn, .int .i64 hn, .slice a26 n26 c26]
        replace S := S.later (Later.new _ (.cells #[.int .i64 wn, .int .i64 hn, .slice a26 n26 c26] 24))
        rw [Later.new_w] at S
        replace hy1 := hy1.later (Later.new _ (.cells #[.int .i64 wn, .int .i64 hn, .slice a26 n26 c26] 24))
        rw [Later.new_w] at hy1
        replace hy2 := hy2.later (Later.new _ (.cells #[.int .i64 wn, .int .i64 hn, .slice a26 n26 c26] 24))
        rw [Later.new_w] at hy2
        replace l1 := l1.later (Later.new _ (.cells #[.int .i64 wn, .int .i64 hn, .slice a26 n26 c26] 24))
        rw [Later.new_w] at l1
        replace lq := lq.later (Later.new _ (.cells #[.int .i64 wn, .int .i64 hn, .slice a26 n26 c26] 24))
        rw [Later.new_w] at lq
        replace lr := lr.later (Later.new _ (.cells #[.int .i64 wn, .int .i64 hn, .slice a26 n26 c26] 24))
        rw [Later.new_w] at lr
        replace l7 := l7.later (Later.new _ (.cells #[.int .i64 wn, .int .i64 hn, .slice a26 n26 c26] 24))
        rw [Later.new_w] at l7
        replace l11 := l11.later (Later.new _ (.cells #[.int .i64 wn, .int .i64 hn, .slice a26 n26 c26] 24))
        rw [Later.new_w] at l11
        replace l16 := l16.later (Later.new _ (.cells #[.int .i64 wn, .int .i64 hn, .slice a26 n26 c26] 24))
        rw [Later.new_w] at l16
        replace l20 := l20.later (Later.new _ (.cells #[.int .i64 wn, .int .i64 hn, .slice a26 n26 c26] 24))
        rw [Later.new_w] at l20
        replace l24 := l24.later (Later.new _ (.cells #[.int .i64 wn, .int .i64 hn, .slice a26 n26 c26] 24))
        rw [Later.new_w] at l24
        have hsz : (Y28.w.alloc (.cells #[.int .i64 wn, .int .i64 hn, .slice a26 n26 c26] 24)).heap.size = B29 + 1 := by rw [hb]; simp
        obtain ⟨Y30, hZ⟩ : ∃ Z : Later W, Z.w = Y28.w.alloc (.cells #[.int .i64 wn, .int .i64 hn, .slice a26 n26 c26] 24) := ⟨Y28.step (Later.new _ _), rfl⟩
        rw [← hZ] at S hsz hy1 hy2 l1 lq lr l7 l11 l16 l20 l24 l29 ⊢
        clear hZ
        rw [← hb]
        clear hb
        clear hsz
        refine (Longs_calls _ _ A A _ (S.at (v := .slice a18 n18 c18) (xs := A) (by simp)) (S.at (v := .slice a22 n22 c22) (xs := A) (by simp))).mono ?_
        rintro e w' ⟨rfl, y, rfl⟩
        rw [eqI_self]
        replace hy1 := hy1.later y
        replace hy2 := hy2.later y
        replace l1 := l1.later y
        replace lq := lq.later y
        replace lr := lr.later y
        replace l7 := l7.later y
        replace l11 := l11.later y
        replace l16 := l16.later y
        replace l20 := l20.later y
        replace l24 := l24.later y
        replace l29 := l29.later y
        replace S := S.later y
        obtain ⟨Y31, hZ⟩ : ∃ Z : Later W, Z.w = y.w := ⟨Y30.step (y), rfl⟩
        rw [← hZ] at S hy1 hy2 l1 lq lr l7 l11 l16 l20 l24 l29 ⊢
        clear hZ
        clear y
        have q0_0 := l29.cell (k := 0) rfl
        have q0_1 := l29.cell (k := 1) rfl
        have q0_2 := l29.cell (k := 2) rfl
        have q0_l := l29.lt
        have q1_0 := lq.cell (k := 0) rfl
        have q1_1 := lq.cell (k := 1) rfl
        have q1_2 := lq.cell (k := 2) rfl
        have q1_l := lq.lt
        go_wp2_with fail
        clear q0_0 q0_1 q0_2 q0_l
        clear q1_0 q1_1 q1_2 q1_l
        refine (upon_calls wn hn _ _ X q C u6 _ (S.at (v := .slice a26 n26 c26) (xs := X) (by simp)) (S.at (v := .slice aq1 nq1 cq1) (xs := q) (by simp)) w6.out.1 HVQ.out K6.out w6.out.2.1).mono ?_
        rintro e w' ⟨v, y, rfl, rfl, hR⟩
        replace hy1 := hy1.later y
        replace hy2 := hy2.later y
        replace l1 := l1.later y
        replace lq := lq.later y
        replace lr := lr.later y
        replace l7 := l7.later y
        replace l11 := l11.later y
        replace l16 := l16.later y
        replace l20 := l20.later y
        replace l24 := l24.later y
        replace l29 := l29.later y
        replace S := S.later y
        obtain ⟨a32, n32, c32, rfl⟩ : ∃ a n c, v = .slice a n c := by obtain ⟨a, c, e⟩ := hR.form; exact ⟨a, _, c, e⟩
        replace S := S.cons hR
        obtain ⟨Y33, hZ⟩ : ∃ Z : Later W, Z.w = y.w := ⟨Y31.step (y), rfl⟩
        rw [← hZ] at S hy1 hy2 l1 lq lr l7 l11 l16 l20 l24 l29 ⊢
        clear hZ
        clear y hR
        have q0_0 := l7.cell (k := 0) rfl
        have q0_1 := l7.cell (k := 1) rfl
        have q0_2 := l7.cell (k := 2) rfl
        have q0_l := l7.lt
        go_wp2_with fail
        clear q0_0 q0_1 q0_2 q0_l
        obtain ⟨B34, hb⟩ : ∃ b, b = Y33.w.heap.size := ⟨_, rfl⟩
        have l34 : Lin (Y33.w.alloc (.cells #[.int .i64 wn, .int .i64 hn, .slice a32 n32 c32] 24)) B34 24 [.int .i64 wn, .int .i64 hn, .slice a32 n32 c32] := by rw [hb]; exact Lin.new _ _ [.int .i64 wn, .int .i64 hn, .slice a32 n32 c32]
        replace S := S.later (Later.new _ (.cells #[.int .i64 wn, .int .i64 hn, .slice a32 n32 c32] 24))
        rw [Later.new_w] at S
        replace hy1 := hy1.later (Later.new _ (.cells #[.int .i64 wn, .int .i64 hn, .slice a32 n32 c32] 24))
        rw [Later.new_w] at hy1
        replace hy2 := hy2.later (Later.new _ (.cells #[.int .i64 wn, .int .i64 hn, .slice a32 n32 c32] 24))
        rw [Later.new_w] at hy2
        replace l1 := l1.later (Later.new _ (.cells #[.int .i64 wn, .int .i64 hn, .slice a32 n32 c32] 24))
        rw [Later.new_w] at l1
        replace lq := lq.later (Later.new _ (.cells #[.int .i64 wn, .int .i64 hn, .slice a32 n32 c32] 24))
        rw [Later.new_w] at lq
        replace lr := lr.later (Later.new _ (.cells #[.int .i64 wn, .int .i64 hn, .slice a32 n32 c32] 24))
        rw [Later.new_w] at lr
        replace l7 := l7.later (Later.new _ (.cells #[.int .i64 wn, .int .i64 hn, .slice a32 n32 c32] 24))
        rw [Later.new_w] at l7
        replace l11 := l11.later (Later.new _ (.cells #[.int .i64 wn, .int .i64 hn, .slice a32 n32 c32] 24))
        rw [Later.new_w] at l11
        replace l16 := l16.later (Later.new _ (.cells #[.int .i64 wn, .int .i64 hn, .slice a32 n32 c32] 24))
        rw [Later.new_w] at l16
        replace l20 := l20.later (Later.new _ (.cells #[.int .i64 wn, .int .i64 hn, .slice a32 n32 c32] 24))
        rw [Later.new_w] at l20
        replace l24 := l24.later (Later.new _ (.cells #[.int .i64 wn, .int .i64 hn, .slice a32 n32 c32] 24))
        rw [Later.new_w] at l24
        replace l29 := l29.later (Later.new _ (.cells #[.int .i64 wn, .int .i64 hn, .slice a32 n32 c32] 24))
        rw [Later.new_w] at l29
        have hsz : (Y33.w.alloc (.cells #[.int .i64 wn, .int .i64 hn, .slice a32 n32 c32] 24)).heap.size = B34 + 1 := by rw [hb]; simp
        obtain ⟨Y35, hZ⟩ : ∃ Z : Later W, Z.w = Y33.w.alloc (.cells #[.int .i64 wn, .int .i64 hn, .slice a32 n32 c32] 24) := ⟨Y33.step (Later.new _ _), rfl⟩
        rw [← hZ] at S hsz hy1 hy2 l1 lq lr l7 l11 l16 l20 l24 l29 l34 ⊢
        clear hZ
        rw [← hb]
        clear hb
        clear hsz
        refine (Longs_calls _ _ C C _ (S.at (v := .slice a32 n32 c32) (xs := C) (by simp)) (S.at (v := .slice a5 n5 c5) (xs := C) (by simp))).mono ?_
        rintro e w' ⟨rfl, y, rfl⟩
        rw [eqI_self]
        replace hy1 := hy1.later y
        replace hy2 := hy2.later y
        replace l1 := l1.later y
        replace lq := lq.later y
        replace lr := lr.later y
        replace l7 := l7.later y
        replace l11 := l11.later y
        replace l16 := l16.later y
        replace l20 := l20.later y
        replace l24 := l24.later y
        replace l29 := l29.later y
        replace l34 := l34.later y
        replace S := S.later y
        obtain ⟨Y36, hZ⟩ : ∃ Z : Later W, Z.w = y.w := ⟨Y35.step (y), rfl⟩
        rw [← hZ] at S hy1 hy2 l1 lq lr l7 l11 l16 l20 l24 l29 l34 ⊢
        clear hZ
        clear y
        go_wp2_with fail
        refine (Works_calls _).mono ?_
        rintro e w' ⟨rfl, y, rfl⟩
        go_wp2
        go_ret
        exact ⟨rfl, Y36.step y, rfl⟩
end Go.Proofs.Ytbjmfhlkmklmmaa
