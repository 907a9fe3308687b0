import Derived.Test.YtbjmfhlkmklmmaaWkP
import Derived.Test.YtbjmfhlkmklmmaaThB
/-  MendMore. -/
namespace Go.Proofs.Ytbjmfhlkmklmmaa
open Go.RowKit
set_option maxRecDepth 100000 in
set_option maxHeartbeats 8000000 in
theorem LMore_calls (w h : Int) (m mo : Nat) (hm255 : m ≤ 255) (hmo : mo ≤ 255) (dv : Value) (d : List Int) (W : World) (hd : Ints W dv d) :
    Calls Try.prog 14 #[.agg #[.int .i64 w, .int .i64 h, dv], .int .u8 (m : Int), .int .u8 (mo : Int)] W (Gives (.bool true) W) := by
  have S : Ins W [] := Ins.nil _
  obtain ⟨a1, n1, c1, rfl⟩ : ∃ a n c, dv = .slice a n c := by obtain ⟨a, c, e⟩ := hd.form; exact ⟨a, _, c, e⟩
  have S := S.cons hd
  by_cases hv : vplate w h d = 0
  rotate_left
  · have hvb : (vplate w h d == 0) = false := by simpa using hv
    clear hv
    go_enter Try.func14, Try.ntmps14
    go_wp2_with fail
    obtain ⟨B1, hb⟩ : ∃ b, b = W.heap.size := ⟨_, rfl⟩
    have l1 : Lin (W.alloc (.cells #[.int .i64 w, .int .i64 h, .slice a1 n1 c1] 24)) B1 24 [.int .i64 w, .int .i64 h, .slice a1 n1 c1] := by rw [hb]; exact Lin.new _ _ [.int .i64 w, .int .i64 h, .slice a1 n1 c1]
    replace S := S.later (Later.new _ (.cells #[.int .i64 w, .int .i64 h, .slice a1 n1 c1] 24))
    rw [Later.new_w] at S
    have hsz : (W.alloc (.cells #[.int .i64 w, .int .i64 h, .slice a1 n1 c1] 24)).heap.size = B1 + 1 := by rw [hb]; simp
    obtain ⟨Y2, hZ⟩ : ∃ Z : Later W, Z.w = W.alloc (.cells #[.int .i64 w, .int .i64 h, .slice a1 n1 c1] 24) := ⟨Later.new _ _, rfl⟩
    rw [← hZ] at S hsz l1 ⊢
    clear hZ
    rw [← hb]
    clear hb
    clear hsz
    refine (fine_calls w h _ d _ (S.at (v := .slice a1 n1 c1) (xs := d) (by simp))).mono ?_
    rintro e w' ⟨rfl, y, rfl⟩
    rw [hvb]
    replace l1 := l1.later y
    replace S := S.later y
    obtain ⟨Y3, hZ⟩ : ∃ Z : Later W, Z.w = y.w := ⟨Y2.step (y), rfl⟩
    rw [← hZ] at S l1 ⊢
    clear hZ
    clear y
    have q0_0 := l1.cell (k := 0) rfl
    have q0_1 := l1.cell (k := 1) rfl
    have q0_2 := l1.cell (k := 2) rfl
    have q0_l := l1.lt
    go_wp2_with fail
    clear q0_0 q0_1 q0_2 q0_l
    refine (Works_calls _).mono ?_
    rintro e w' ⟨rfl, y, rfl⟩
    go_wp2
    go_ret
    exact ⟨rfl, Y3.step y, rfl⟩
  · obtain ⟨wn, hn, rfl, rfl, _⟩ := vplate_zero hv
    obtain ⟨hs, hl, hlo, hlow⟩ := valid_low hv
    obtain ⟨X, U, hm⟩ := ham_ex hs hl hlow
    have h36 : wn * hn ≤ 36 := Nat.mul_le_mul hs.2.1 hs.2.2.2
    have h1w : 1 ≤ wn * hn := Nat.mul_le_mul hs.1 hs.2.2.1
    have HV := Lib.hid hv
    have HL := Lib.hid hl
    have HLO := Lib.hid hlo
    have HLW := Lib.hid hlow
    have HM := Lib.hid hm
    have hvb : (vplate wn hn d == 0) = true := by rw [hv]; rfl
    have HN1 := Lib.hid (show n1 = d.length by obtain ⟨a, c, e⟩ := hd.form; cases e; rfl)
    clear hv hl hlo hlow hm
    go_enter Try.func14, Try.ntmps14
    go_wp2_with fail
    obtain ⟨B1, hb⟩ : ∃ b, b = W.heap.size := ⟨_, rfl⟩
    have l1 : Lin (W.alloc (.cells #[.int .i64 wn, .int .i64 hn, .slice a1 n1 c1] 24)) B1 24 [.int .i64 wn, .int .i64 hn, .slice a1 n1 c1] := by rw [hb]; exact Lin.new _ _ [.int .i64 wn, .int .i64 hn, .slice a1 n1 c1]
    replace S := S.later (Later.new _ (.cells #[.int .i64 wn, .int .i64 hn, .slice a1 n1 c1] 24))
    rw [Later.new_w] at S
    have hsz : (W.alloc (.cells #[.int .i64 wn, .int .i64 hn, .slice a1 n1 c1] 24)).heap.size = B1 + 1 := by rw [hb]; simp
    obtain ⟨Y2, hZ⟩ : ∃ Z : Later W, Z.w = W.alloc (.cells #[.int .i64 wn, .int .i64 hn, .slice a1 n1 c1] 24) := ⟨Later.new _ _, rfl⟩
    rw [← hZ] at S hsz l1 ⊢
    clear hZ
    rw [← hb]
    clear hb
    clear hsz
    refine (fine_calls wn hn _ d _ (S.at (v := .slice a1 n1 c1) (xs := d) (by simp))).mono ?_
    rintro e w' ⟨rfl, y, rfl⟩
    rw [hvb]
    clear hvb
    replace l1 := l1.later y
    replace S := S.later y
    obtain ⟨Y3, hZ⟩ : ∃ Z : Later W, Z.w = y.w := ⟨Y2.step (y), rfl⟩
    rw [← hZ] at S l1 ⊢
    clear hZ
    clear y
    obtain ⟨i, hi⟩ : ∃ i, m % n1 = i := ⟨_, rfl⟩
    have hn1 : n1 = wn * hn := HN1.out.trans HL.out
    have hiN : i < wn * hn := by rw [← hi, ← hn1]; exact Nat.mod_lt _ (by omega)
    have hin : i < n1 := by omega
    have ei : (m : Int) % (n1 : Int) = (i : Int) := by rw [← hi]; exact (Int.natCast_emod _ _).symm
    have hn0 : (n1 : Int) ≠ 0 := by omega
    have HIN := Lib.hid hiN
    have HNN := Lib.hid hn1
    clear hi hn1 hiN
    have q0_0 := l1.cell (k := 0) rfl
    have q0_1 := l1.cell (k := 1) rfl
    have q0_2 := l1.cell (k := 2) rfl
    have q0_l := l1.lt
    go_wp2
    refine Mix.region_mixL (Mix.kinds [4, 9] [7] [10]) (by kernel_rfl) (by kernel_rfl) ?_
    repeat ((with_reducible refine Mix.atCons ?_); first | refine Mix.skipU (by rfl) rfl (by rfl) ?_ | (refine Mix.val rfl rfl (by rfl) (fun K hK => ?_); go_big_quiet_op; refine hK _ ?_; clear hK K))
    refine Mix.new rfl (by rfl) (fun b => .slice (some ⟨b, 0, none⟩) 0 0) (.cells #[] 2) (fun w => by simp [go_sem]) (fun E x0 hE hxE => ?_)
    try go_frame
    repeat ((with_reducible refine Mix.atCons ?_); first | refine Mix.skipU (by rfl) rfl (by rfl) ?_ | (refine Mix.val rfl rfl (by rfl) (fun K hK => ?_); go_big_quiet_op; refine hK _ ?_; clear hK K))
    refine Mix.loud rfl (by rfl) (fun xa K hK => ?_)
    have hE2 : IntsN Y3.w.heap.size xa.w (.slice (some ⟨E, 0, none⟩) 0 0) [] := (IntsN.of_block hE hxE).later xa
    obtain ⟨aq, nq, cq, q2, hrun2, hN2⟩ := app_emptyN hE2 (((S.at (v := .slice a1 n1 c1) (xs := d) (by simp)).later x0).later xa) (Nat.le_trans x0.size xa.size) (by rw [HL.out]; omega) 22
    refine Lib.wp_append_run_sl _ _ _ 22 rfl _ _ rfl rfl hrun2 ?_
    refine hK _ q2 ?_
    clear hK hrun2 K
    try go_frame
    repeat ((with_reducible refine Mix.atCons ?_); first | refine Mix.skipU (by rfl) rfl (by rfl) ?_ | (refine Mix.val rfl rfl (by rfl) (fun K hK => ?_); go_big_quiet_op; refine hK _ ?_; clear hK K))
    refine Mix.new rfl (by rfl) (fun b => .pointer (some ⟨b, 0, none⟩)) (.cells #[.int .i64 0, .int .i64 0, .slice none 0 0] 24) (fun w => by simp [go_sem]) (fun T x3 hT hxT => ?_)
    simp only [Act.put, List.setIfInBounds_toArray, List.set]
    have hnq : nq = wn * hn := by obtain ⟨a9, c9, e9⟩ := hN2.form; cases e9; exact HL.out
    have HNQ := Lib.hid hnq
    clear hnq
    obtain ⟨gq, hgq, z1, hgW, hglt, z2, fq, cq0, z3, z4⟩ := hN2.set (k := 0) (by rw [HL.out]; exact h1w) 0
    subst hgq
    clear z1 z2 z3 z4
    refine Mix.last rfl (by rfl) (fun x4 K hK => ?_)
    have hbT : Lin x4.w T 24 [.int .i64 0, .int .i64 0, .slice none 0 0] := (Lin.later (cs := [.int .i64 0, .int .i64 0, .slice none 0 0]) hxT x4)
    have t0 := hbT.cell (k := 0) rfl
    have t1 := hbT.cell (k := 1) rfl
    have t2 := hbT.cell (k := 2) rfl
    have f0 := hbT.frozen 0
    have f1 := hbT.frozen 1
    have f2 := hbT.frozen 2
    have tl := hbT.lt
    have hq4 : IntsN Y3.w.heap.size x4.w (.slice (some ⟨gq, 0, none⟩) nq cq) d := (hN2.later x3).later x4
    have hgT : T ≠ gq := fun e => by
      have h1 := hN2
      have h9 := (World.ownsRow.lt hN2 gq rfl).2
      rw [e] at hxT
      have h8 := (x3.le.block gq h9)
      obtain ⟨_, hr | ⟨g9, cap9, cur9, e9, _, hg9, _⟩⟩ := hN2
      · cases hr.1
      · cases e9
        rw [h8, hg9] at hxT
        cases hxT
    have hB5 : Below Y3.w.heap.size Y3.w x4.w := (x0.step (xa.step (q2.step (x3.step (x4))))).le
    have hTl : Y3.w.heap.size ≤ T := hT
    have HL3 := Lib.hid (((hbT.set 0 (.int .i64 wn)).set 1 (.int .i64 hn)).set 2 (.slice (some ⟨gq, 0, none⟩) nq cq))
    have hne9 : (Value.slice (some ⟨gq, 0, none⟩) nq cq).ownBlock ≠ some T := fun e => by simp only [Value.ownBlock, Option.some.injEq] at e; exact hgT e.symm
    have HQ3 := Lib.hid (((hq4.kept (grownBy_setCell_at x4.w T 0 (.int .i64 wn)) (.inr hne9)).kept (grownBy_setCell_at _ T 1 (.int .i64 hn)) (.inr hne9)).kept (grownBy_setCell_at _ T 2 (.slice (some ⟨gq, 0, none⟩) nq cq)) (.inr hne9))
    have HB3 := Lib.hid (((hB5.setCell (p := ⟨T, 0, none⟩) hTl (.int .i64 wn)).setCell (p := ⟨T, 1, none⟩) hTl (.int .i64 hn)).setCell (p := ⟨T, 2, none⟩) hTl (.slice (some ⟨gq, 0, none⟩) nq cq))
    clear hbT hq4 hB5 hxT hN2 hxE hE2 fq cq0
    clear q0_0 q0_1 q0_2 q0_l
    go_wp2_with fail
    refine Mix.done (fun y => ?_)
    obtain ⟨V1, hV1⟩ : ∃ V1 : Later Y3.w, V1.w = y.w := ⟨⟨y.w, HB3.out.trans (y.le.mono HB3.out.size)⟩, rfl⟩
    have lT : Lin V1.w T 24 [.int .i64 wn, .int .i64 hn, .slice (some ⟨gq, 0, none⟩) nq cq] := by rw [hV1]; exact HL3.out.later y
    have hq5 : IntsN Y3.w.heap.size V1.w (.slice (some ⟨gq, 0, none⟩) nq cq) d := by rw [hV1]; exact HQ3.out.later y
    rw [← hV1]
    clear hV1 HL3 HQ3 HB3 t0 t1 t2 f0 f1 f2 tl
    clear y
    have t2 := lT.cell (k := 2) rfl
    have tl := lT.lt
    obtain ⟨g0, e0, j1, j2, j3, j4, fq, gqc, j5, j6⟩ := hq5.set (k := i) (by rw [HL.out]; exact HIN.out) 0
    cases e0
    rw [nth_ofL] at gqc
    have hdi := HLO.out i HIN.out
    have e9 : IntKind.i64.wrap (ofL d i + (mo : Int)) = ofL d i + mo := IntWalk.i64_in _ (by omega)
    have hinq : i < nq := by rw [HNQ.out]; exact HIN.out
    have hnn : n1 = nq := by rw [HNQ.out]; exact HNN.out
    subst hnn
    clear j1 j2 j4 j5 j6
    go_wp2
    refine Mix.region_mixL (Mix.kinds [] [11] [13]) (by kernel_rfl) (by kernel_rfl) ?_
    repeat ((with_reducible refine Mix.atCons ?_); first | refine Mix.skipU (by rfl) rfl (by rfl) ?_ | (refine Mix.val rfl rfl (by rfl) (fun K hK => ?_); go_big_quiet_op; refine hK _ ?_; clear hK K))
    refine Mix.loud rfl (by rfl) (fun x5 K hK => ?_)
    go_wp2_with fail
    refine hK _ (Later.self _) ?_
    clear hK K
    simp only [Later.self_w]
    repeat ((with_reducible refine Mix.atCons ?_); first | refine Mix.skipU (by rfl) rfl (by rfl) ?_ | (refine Mix.val rfl rfl (by rfl) (fun K hK => ?_); go_big_quiet_op; refine hK _ ?_; clear hK K))
    refine Mix.last rfl (by rfl) (fun x6 K hK => ?_)
    obtain ⟨v, hv9⟩ : ∃ v, min 30 (ofL d i + (mo : Int)) = v := ⟨_, rfl⟩
    have hvr : 0 ≤ v ∧ v ≤ 30 ∧ ofL d i ≤ v := by omega
    rw [hv9]
    have HVR := Lib.hid hvr
    clear hv9 hvr
    have hq6 := (hq5.later x5).later x6
    obtain ⟨g1, e1, j1, j2, j3', j4, fq2, gq2, j5, j6⟩ := hq6.set (k := i) (by rw [HL.out]; exact HIN.out) v
    cases e1
    have lT6 := (((lT.later x5).later x6).other (b := gq) (k := i) hgT (.int .i64 v))
    have hB6 : Below Y3.w.heap.size Y3.w (x6.w.setCell ⟨gq, i, none⟩ (.int .i64 v)) := (((V1.step x5).step x6).le).setCell (p := ⟨gq, i, none⟩) hgW _
    have HQ6 := Lib.hid j5
    have HLT := Lib.hid lT6
    have HB6 := Lib.hid hB6
    clear j1 j2 j4 j5 j6 hq6 lT6 hB6 lT hq5 gqc j3 fq
    go_wp2_with fail
    refine Mix.done (fun y => ?_)
    obtain ⟨V2, hV2⟩ : ∃ V2 : Later Y3.w, V2.w = y.w := ⟨⟨y.w, HB6.out.trans (y.le.mono HB6.out.size)⟩, rfl⟩
    have lT : Lin V2.w T 24 [.int .i64 wn, .int .i64 hn, .slice (some ⟨gq, 0, none⟩) n1 cq] := by rw [hV2]; exact HLT.out.later y
    have hq : Ints V2.w (.slice (some ⟨gq, 0, none⟩) n1 cq) (d.set i v) := by rw [hV2]; exact (HQ6.out.later y).ints (by rw [List.length_set, HL.out]; omega)
    rw [← hV2]
    clear hV2 HLT HQ6 HB6
    clear y
    clear t2 tl
    clear hE hT hgW hglt hgT hTl hne9
    replace l1 := l1.later V2
    replace S := (S.later V2).cons hq
    clear hq
    obtain ⟨Y4, hZ⟩ : ∃ Z : Later W, Z.w = V2.w := ⟨Y3.step (V2), rfl⟩
    rw [← hZ] at S l1 lT ⊢
    clear hZ
    have hqv : vplate wn hn (d.set i v) = 0 := vplate_of hs (by rw [List.length_set]; exact HL.out) fun j hj => by
      rw [ofL_set _ _ _ _ (by rw [HL.out]; exact HIN.out)]
      split
      · exact ⟨HVR.out.1, HVR.out.2.1⟩
      · exact HLO.out j hj
    obtain ⟨X2, U2, hm2⟩ := ham_ex hs (valid_low hqv).2.1 (valid_low hqv).2.2.2
    have hmo := HM.out.more hm2 fun j hj => by
      rw [ofL_set _ _ _ _ (by rw [HL.out]; exact HIN.out)]
      split
      · rename_i e; subst e; exact HVR.out.2.2
      · exact Int.le_refl _
    have HVQ := Lib.hid hqv
    have HM2 := Lib.hid hm2
    have HMO := Lib.hid hmo
    clear hqv hm2 hmo
    have q0_0 := l1.cell (k := 0) rfl
    have q0_1 := l1.cell (k := 1) rfl
    have q0_2 := l1.cell (k := 2) rfl
    have q0_l := l1.lt
    go_wp2_with fail
    clear q0_0 q0_1 q0_2 q0_l
    refine (flat_calls wn hn _ d X U _ (S.at (v := .slice a1 n1 c1) (xs := d) (by simp)) HV.out HM.out).mono ?_
    rintro e w' ⟨v, u, y, rfl, rfl, hR, hU⟩
    replace l1 := l1.later y
    replace lT := lT.later y
    replace S := S.later y
    obtain ⟨a5, n5, c5, rfl⟩ : ∃ a n c, v = .slice a n c := by obtain ⟨a, c, e⟩ := hR.form; exact ⟨a, _, c, e⟩
    replace S := S.cons hR
    obtain ⟨a6, n6, c6, rfl⟩ : ∃ a n c, u = .slice a n c := by obtain ⟨a, c, e⟩ := hU.form; exact ⟨a, _, c, e⟩
    replace S := S.cons hU
    obtain ⟨Y7, hZ⟩ : ∃ Z : Later W, Z.w = y.w := ⟨Y4.step (y), rfl⟩
    rw [← hZ] at S l1 lT ⊢
    clear hZ
    clear y hR hU
    have q0_0 := lT.cell (k := 0) rfl
    have q0_1 := lT.cell (k := 1) rfl
    have q0_2 := lT.cell (k := 2) rfl
    have q0_l := lT.lt
    go_wp2_with fail
    clear q0_0 q0_1 q0_2 q0_l
    obtain ⟨B8, hb⟩ : ∃ b, b = Y7.w.heap.size := ⟨_, rfl⟩
    have l8 : Lin (Y7.w.alloc (.cells #[.int .i64 wn, .int .i64 hn, .slice a5 n5 c5] 24)) B8 24 [.int .i64 wn, .int .i64 hn, .slice a5 n5 c5] := by rw [hb]; exact Lin.new _ _ [.int .i64 wn, .int .i64 hn, .slice a5 n5 c5]
    replace S := S.later (Later.new _ (.cells #[.int .i64 wn, .int .i64 hn, .slice a5 n5 c5] 24))
    rw [Later.new_w] at S
    replace l1 := l1.later (Later.new _ (.cells #[.int .i64 wn, .int .i64 hn, .slice a5 n5 c5] 24))
    rw [Later.new_w] at l1
    replace lT := lT.later (Later.new _ (.cells #[.int .i64 wn, .int .i64 hn, .slice a5 n5 c5] 24))
    rw [Later.new_w] at lT
    have hsz : (Y7.w.alloc (.cells #[.int .i64 wn, .int .i64 hn, .slice a5 n5 c5] 24)).heap.size = B8 + 1 := by rw [hb]; simp
    obtain ⟨Y9, hZ⟩ : ∃ Z : Later W, Z.w = Y7.w.alloc (.cells #[.int .i64 wn, .int .i64 hn, .slice a5 n5 c5] 24) := ⟨Y7.step (Later.new _ _), rfl⟩
    rw [← hZ] at S hsz l1 lT l8 ⊢
    clear hZ
    rw [← hb]
    clear hb
    clear hsz
    refine (flat_calls wn hn _ (d.set i v) X2 U2 _ (S.at (v := .slice (some ⟨gq, 0, none⟩) n1 cq) (xs := (d.set i v)) (by simp)) HVQ.out HM2.out).mono ?_
    rintro e w' ⟨v, u, y, rfl, rfl, hR, hU⟩
    replace l1 := l1.later y
    replace lT := lT.later y
    replace l8 := l8.later y
    replace S := S.later y
    obtain ⟨a10, n10, c10, rfl⟩ : ∃ a n c, v = .slice a n c := by obtain ⟨a, c, e⟩ := hR.form; exact ⟨a, _, c, e⟩
    replace S := S.cons hR
    obtain ⟨a11, n11, c11, rfl⟩ : ∃ a n c, u = .slice a n c := by obtain ⟨a, c, e⟩ := hU.form; exact ⟨a, _, c, e⟩
    replace S := S.cons hU
    obtain ⟨Y12, hZ⟩ : ∃ Z : Later W, Z.w = y.w := ⟨Y9.step (y), rfl⟩
    rw [← hZ] at S l1 lT l8 ⊢
    clear hZ
    clear y hR hU
    have q0_0 := l8.cell (k := 0) rfl
    have q0_1 := l8.cell (k := 1) rfl
    have q0_2 := l8.cell (k := 2) rfl
    have q0_l := l8.lt
    go_wp2_with fail
    clear q0_0 q0_1 q0_2 q0_l
    obtain ⟨B13, hb⟩ : ∃ b, b = Y12.w.heap.size := ⟨_, rfl⟩
    have l13 : Lin (Y12.w.alloc (.cells #[.int .i64 wn, .int .i64 hn, .slice a10 n10 c10] 24)) B13 24 [.int .i64 wn, .int .i64 hn, .slice a10 n10 c10] := by rw [hb]; exact Lin.new _ _ [.int .i64 wn, .int .i64 hn, .slice a10 n10 c10]
    replace S := S.later (Later.new _ (.cells #[.int .i64 wn, .int .i64 hn, .slice a10 n10 c10] 24))
    rw [Later.new_w] at S
    replace l1 := l1.later (Later.new _ (.cells #[.int .i64 wn, .int .i64 hn, .slice a10 n10 c10] 24))
    rw [Later.new_w] at l1
    replace lT := lT.later (Later.new _ (.cells #[.int .i64 wn, .int .i64 hn, .slice a10 n10 c10] 24))
    rw [Later.new_w] at lT
    replace l8 := l8.later (Later.new _ (.cells #[.int .i64 wn, .int .i64 hn, .slice a10 n10 c10] 24))
    rw [Later.new_w] at l8
    have hsz : (Y12.w.alloc (.cells #[.int .i64 wn, .int .i64 hn, .slice a10 n10 c10] 24)).heap.size = B13 + 1 := by rw [hb]; simp
    obtain ⟨Y14, hZ⟩ : ∃ Z : Later W, Z.w = Y12.w.alloc (.cells #[.int .i64 wn, .int .i64 hn, .slice a10 n10 c10] 24) := ⟨Y12.step (Later.new _ _), rfl⟩
    rw [← hZ] at S hsz l1 lT l8 l13 ⊢
    clear hZ
    rw [← hb]
    clear hb
    clear hsz
    obtain ⟨bu, ou, ku, e, hku, hbu, hgu⟩ := (S.at (v := .slice a6 n6 c6) (xs := U) (by simp)).at (k := 0) (by rw [HM.out.lenU]; exact h1w)
    injection e with e1 e2 e3
    subst e1 e3
    have HNu := Lib.hid e2
    have HGu := Lib.hid hgu
    clear e2 hgu
    obtain ⟨bw, ow, kw, e, hkw, hbw, hgw⟩ := (S.at (v := .slice a11 n11 c11) (xs := U2) (by simp)).at (k := 0) (by rw [HM2.out.lenU]; exact h1w)
    injection e with e1 e2 e3
    subst e1 e3
    have HNw := Lib.hid e2
    have HGw := Lib.hid hgw
    clear e2 hgw
    have HUL := Lib.hid (HNu.out.trans HM.out.lenU)
    have HWL := Lib.hid (HNw.out.trans HM2.out.lenU)
    go_wp2
    go_loopw [15] (fun c wr => ∃ (k : Nat) (V : Later Y14.w), wr = V.w ∧ k ≤ wn * hn ∧ c = .int .i64 k) (fun c _ => wn * hn - (intOf c).toNat)
    case atStart => exact ⟨0, Later.self _, rfl, Nat.zero_le _, rfl⟩
    case round =>
      obtain ⟨k, V, rfl, hk, rfl⟩ := hrel
      by_cases hlt : k < wn * hn
      · have gu := (V.cell hbu).trans (HGu.out k (by rw [HM.out.lenU]; exact hlt))
        have gw := (V.cell hbw).trans (HGw.out k (by rw [HM2.out.lenU]; exact hlt))
        have lu := Nat.lt_of_lt_of_le hbu V.size
        have lw := Nat.lt_of_lt_of_le hbw V.size
        rw [nth_ofL] at gu gw
        have hku : k < n6 := by rw [HUL.out]; exact hlt
        have hkw : k < n11 := by rw [HWL.out]; exact hlt
        have hb1 := HMO.out k hlt
        have e2 : decide (ofL U2 k < ofL U k) = false := decide_eq_false (by omega)
        have E2 := Lib.hid e2
        clear hb1 e2
        go_wp2
        refine Mix.region_mixL (Mix.kinds [] [] []) (by kernel_rfl) (by kernel_rfl) ?_
        repeat ((with_reducible refine Mix.atCons ?_); first | refine Mix.skipU (by rfl) rfl (by rfl) ?_ | (refine Mix.val rfl rfl (by rfl) (fun K hK => ?_); go_big_quiet_op; refine hK _ ?_; clear hK K) | simp only [E2.out])
        refine Mix.done (fun z3 => ?_)
        have h3 : ¬ ofL U2 k < ofL U k := of_decide_eq_false E2.out
        go_wp2
        go_roundw
        case rel => exact ⟨k + 1, V.step z3, rfl, by omega, by go_num⟩
        case measure => simp [intOf]; omega
      · have hku : ¬ k < n6 := by rw [HUL.out]; exact hlt
        go_wp2_with fail
        refine (Works_calls _).mono ?_
        rintro e w' ⟨rfl, y, rfl⟩
        go_wp2
        go_ret
        exact ⟨rfl, (Y14.step V).step y, rfl⟩
theorem LMoreI_calls (w h m mo : Int) (h0 : 0 ≤ m) (hm255 : m ≤ 255) (h1 : 0 ≤ mo) (hmo : mo ≤ 255) (dv : Value) (d : List Int) (W : World) (hd : Ints W dv d) :
    Calls Try.prog 14 #[.agg #[.int .i64 w, .int .i64 h, dv], .int .u8 m, .int .u8 mo] W (Gives (.bool true) W) := by
  obtain ⟨k, rfl⟩ := Int.eq_ofNat_of_zero_le h0
  obtain ⟨l, rfl⟩ := Int.eq_ofNat_of_zero_le h1
  exact LMore_calls w h k l (by omega) (by omega) dv d W hd
end Go.Proofs.Ytbjmfhlkmklmmaa
