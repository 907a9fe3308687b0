import Derived.Test.YtbjmfhlkmklmmaaLUpon
import Derived.Test.YtbjmfhlkmklmmaaLawF
/-  MendTurned. -/
namespace Go.Proofs.Ytbjmfhlkmklmmaa
open Go.RowKit

def fromL (w h : Nat) (c r e : Bool) (n : Nat) : List Int := (List.range n).map fun j => ((turnS w h c r e j : Nat) : Int)
theorem fromL_len (w h : Nat) (c r e : Bool) (n : Nat) : (fromL w h c r e n).length = n := by simp [fromL]
theorem fromL_snoc (w h : Nat) (c r e : Bool) (n : Nat) : fromL w h c r e (n + 1) = fromL w h c r e n ++ [((turnS w h c r e n : Nat) : Int)] := by simp [fromL, List.range_succ]
theorem fromL_at (w h : Nat) (c r e : Bool) {n j : Nat} (hj : j < n) : nth (fromL w h c r e n) j = ((turnS w h c r e j : Nat) : Int) := by simp [nth, fromL, hj]
theorem turnL_snoc (n : Nat) (s : Nat → Nat) (d : List Int) : turnL (n + 1) s d = turnL n s d ++ [ofL d (s n)] := by simp [turnL, List.range_succ]
theorem IntsM.empty0 (lo : Nat) (w : World) : IntsM lo w (.slice none 0 0) [] := IntsM.nil _ _
set_option maxRecDepth 100000 in
set_option maxHeartbeats 16000000 in
theorem LTurned_calls (w h : Int) (c r ex : Bool) (dv : Value) (d : List Int) (W : World) (hd : Ints W dv d) :
    Calls Try.prog 13 #[.agg #[.int .i64 w, .int .i64 h, dv], .bool c, .bool r, .bool ex] W (Gives (.bool true) W) := by
  have S : Ins W [] := Ins.nil _
  obtain ⟨a1, n1, c1, rfl⟩ : ∃ a n c, dv = .slice a n c := by obtain ⟨a, c, e⟩ := hd.form; exact ⟨a, _, c, e⟩
  have S := S.cons hd
  by_cases hv : vplate w h d = 0
  rotate_left
  · have hvb : (vplate w h d == 0) = false := by simpa using hv
    clear hv
    go_enter Try.func13, Try.ntmps13
    go_wp2_with fail
    obtain ⟨B1, hb⟩ : ∃ b, b = W.heap.size := ⟨_, rfl⟩
    have l1 : Lin (W.alloc (.cells #[.int .i64 w, .int .i64 h, .slice a1 n1 c1] 24)) B1 24 [.int .i64 w, .int .i64 h, .slice a1 n1 c1] := by rw [hb]; exact Lin.new _ _ [.int .i64 w, .int .i64 h, .slice a1 n1 c1]
    replace S := S.later (Later.new _ (.cells #[.int .i64 w, .int .i64 h, .slice a1 n1 c1] 24))
    rw [Later.new_w] at S
    have hsz : (W.alloc (.cells #[.int .i64 w, .int .i64 h, .slice a1 n1 c1] 24)).heap.size = B1 + 1 := by rw [hb]; simp
    obtain ⟨Y2, hZ⟩ : ∃ Z : Later W, Z.w = W.alloc (.cells #[.int .i64 w, .int .i64 h, .slice a1 n1 c1] 24) := ⟨Later.new _ _, rfl⟩
    rw [← hZ] at S hsz l1 ⊢
    clear hZ
    rw [← hb]
    clear hb
    clear hsz
    refine (fine_calls w h _ d _ (S.at (v := .slice a1 n1 c1) (xs := d) (by simp))).mono ?_
    rintro e w' ⟨rfl, y, rfl⟩
    rw [hvb]
    replace l1 := l1.later y
    replace S := S.later y
    obtain ⟨Y3, hZ⟩ : ∃ Z : Later W, Z.w = y.w := ⟨Y2.step (y), rfl⟩
    rw [← hZ] at S l1 ⊢
    clear hZ
    clear y
    have q0_0 := l1.cell (k := 0) rfl
    have q0_1 := l1.cell (k := 1) rfl
    have q0_2 := l1.cell (k := 2) rfl
    have q0_l := l1.lt
    go_wp2_with fail
    clear q0_0 q0_1 q0_2 q0_l
    refine (Works_calls _).mono ?_
    rintro e w' ⟨rfl, y, rfl⟩
    go_wp2
    go_ret
    exact ⟨rfl, Y3.step y, rfl⟩
  · obtain ⟨wn, hn, rfl, rfl, _⟩ := vplate_zero hv
    obtain ⟨hs, hl, hlo, hlow⟩ := valid_low hv
    obtain ⟨X, U, hm⟩ := ham_ex hs hl hlow
    have h36 : wn * hn ≤ 36 := Nat.mul_le_mul hs.2.1 hs.2.2.2
    have h1w : 1 ≤ wn * hn := Nat.mul_le_mul hs.1 hs.2.2.1
    have HV := Lib.hid hv
    have HL := Lib.hid hl
    have HLO := Lib.hid hlo
    have HLW := Lib.hid hlow
    have HM := Lib.hid hm
    have hvb : (vplate wn hn d == 0) = true := by rw [hv]; rfl
    have HN1 := Lib.hid (show n1 = d.length by obtain ⟨a, c, e⟩ := hd.form; cases e; rfl)
    clear hv hl hlo hlow hm
    go_enter Try.func13, Try.ntmps13
    go_wp2_with fail
    obtain ⟨B1, hb⟩ : ∃ b, b = W.heap.size := ⟨_, rfl⟩
    have l1 : Lin (W.alloc (.cells #[.int .i64 wn, .int .i64 hn, .slice a1 n1 c1] 24)) B1 24 [.int .i64 wn, .int .i64 hn, .slice a1 n1 c1] := by rw [hb]; exact Lin.new _ _ [.int .i64 wn, .int .i64 hn, .slice a1 n1 c1]
    replace S := S.later (Later.new _ (.cells #[.int .i64 wn, .int .i64 hn, .slice a1 n1 c1] 24))
    rw [Later.new_w] at S
    have hsz : (W.alloc (.cells #[.int .i64 wn, .int .i64 hn, .slice a1 n1 c1] 24)).heap.size = B1 + 1 := by rw [hb]; simp
    obtain ⟨Y2, hZ⟩ : ∃ Z : Later W, Z.w = W.alloc (.cells #[.int .i64 wn, .int .i64 hn, .slice a1 n1 c1] 24) := ⟨Later.new _ _, rfl⟩
    rw [← hZ] at S hsz l1 ⊢
    clear hZ
    rw [← hb]
    clear hb
    clear hsz
    refine (fine_calls wn hn _ d _ (S.at (v := .slice a1 n1 c1) (xs := d) (by simp))).mono ?_
    rintro e w' ⟨rfl, y, rfl⟩
    rw [hvb]
    clear hvb
    replace l1 := l1.later y
    replace S := S.later y
    obtain ⟨Y3, hZ⟩ : ∃ Z : Later W, Z.w = y.w := ⟨Y2.step (y), rfl⟩
    rw [← hZ] at S l1 ⊢
    clear hZ
    clear y
    cases ex
    · have q0_0 := l1.cell (k := 0) rfl
      have q0_1 := l1.cell (k := 1) rfl
      have q0_2 := l1.cell (k := 2) rfl
      have q0_l := l1.lt
      go_wp2
      clear q0_0 q0_1 q0_2 q0_l
      obtain ⟨C, hC⟩ : ∃ C, C = Y3.w.heap.size := ⟨_, rfl⟩
      obtain ⟨V0, hV0⟩ : ∃ V : Later Y3.w, V.w = Y3.w.alloc (.cells #[.int .i64 wn, .int .i64 hn, .slice none 0 0] 24) := ⟨Later.new _ _, rfl⟩
      have lC : Lin V0.w C 24 [.int .i64 wn, .int .i64 hn, .slice none 0 0] := by rw [hV0, hC]; exact Lin.new _ _ [.int .i64 wn, .int .i64 hn, .slice none 0 0]
      have hCY : Y3.w.heap.size ≤ C := Nat.le_of_eq hC.symm
      rw [← hV0, ← hC]
      clear hV0 hC
      have hBC : B1 ≠ C := by have := l1.lt; omega
      obtain ⟨V1, rfl⟩ : ∃ V, V = V0 := ⟨_, rfl⟩
      have F0 : Fld Y3.w V1.w C 2 24 [.int .i64 wn, .int .i64 hn, .slice none 0 0] (.slice none 0 0) (turnL 0 (turnS wn hn c r false) d) := ⟨V1.le, lC, rfl, IntsN.nil _ _, by simp [Value.ownBlock], hCY⟩
      clear lC
      have HNX : Hid (n1 = wn * hn) := HN1.out.trans HL.out
      have HS : Hid (Sym wn hn wn hn (turnS wn hn c r false) (turnT wn hn c r false)) := Lib.hid (turn_sym hs c r false)
      have HSQ : Hid (sized wn hn) := hs
      obtain ⟨hw1, hw6, hh1, hh6⟩ := hs
      have HSZ : Hid (sized wn hn) := ⟨hw1, hw6, hh1, hh6⟩
      obtain ⟨bd, od, kd, e, hkd, hbd, hgd⟩ := (S.at (v := .slice a1 n1 c1) (xs := d) (by simp)).at (k := 0) (by rw [HL.out]; exact h1w)
      injection e with e1 e2 e3
      subst e1 e3
      have HGD := Lib.hid hgd
      clear e2 hgd
      go_wp2
      go_loopw [10, 11] (fun l i wr => ∃ (k : Nat) (V : Later Y3.w) (vq : Value), wr = V.w ∧ i = .int .i64 k ∧ k ≤ wn * hn ∧ IntsM Y3.w.heap.size V.w l (fromL wn hn c r false k) ∧ Fld Y3.w V.w C 2 24 [.int .i64 wn, .int .i64 hn, vq] vq (turnL k (turnS wn hn c r false) d)) (fun _ i _ => wn * hn - (intOf i).toNat)
      case atStart => exact ⟨0, V1, _, rfl, rfl, Nat.zero_le _, IntsM.nil _ _, F0⟩
      case round =>
        obtain ⟨k, V, vq, rfl, rfl, hk, hM, hF⟩ := hrel
        clear F0
        obtain ⟨afr, nfr, cfr, rfl⟩ := hM.form'
        have v0 := (l1.later V).cell (k := 0) rfl
        have v1 := (l1.later V).cell (k := 1) rfl
        have v2 := (l1.later V).cell (k := 2) rfl
        have vl := (l1.later V).lt
        have u0 := hF.lin.cell (k := 0) rfl
        have u1 := hF.lin.cell (k := 1) rfl
        have u2 := hF.lin.cell (k := 2) rfl
        have ul := hF.lin.lt
        by_cases hlt : k < wn * hn
        rotate_left
        · obtain rfl : k = wn * hn := by omega
          have lC := hF.lin
          obtain ⟨aQ, nQ, cQ, rfl⟩ := hF.own.form'
          have hQ := hF.own.ints (by rw [turnL_len]; omega)
          have hI := hM.ints (by rw [fromL_len]; omega)
          have hnf : Hid (nfr = wn * hn) := by obtain ⟨a9, c9, e9⟩ := hM.form; cases e9; exact fromL_len _ _ _ _ _ _
          clear v0 v1 v2 vl u0 u1 u2 ul hlt hF hM hk
          replace l1 := l1.later V
          replace S := (S.later V).cons hQ
          clear hQ
          obtain ⟨Y24, hZ⟩ : ∃ Z : Later Y3.w, Z.w = V.w := ⟨V, rfl⟩
          rw [← hZ] at S l1 lC hI ⊢
          clear hZ
          have hqz : ∀ j, j < wn * hn → ofL (turnL (wn * hn) (turnS wn hn c r false) d) j = ofL d ((turnS wn hn c r false) j) := fun j hj => ofL_turnL _ _ hj
          have hNN : wn * hn = wn * hn := rfl
          have hqv : vplate wn hn (turnL (wn * hn) (turnS wn hn c r false) d) = 0 := vplate_of HSQ.out (by rw [turnL_len, hNN]) fun j hj => by
            rw [hNN] at hj
            rw [hqz j hj]
            exact HLO.out _ (HS.out.ls j hj)
          obtain ⟨X2, U2, hm2⟩ := ham_ex HSQ.out (valid_low hqv).2.1 (valid_low hqv).2.2.2
          have hmap := HS.out.ham hqz HM.out hm2
          have vx := HM.out.vp HSZ.out HLW.out
          have vy := hm2.vp HSQ.out (valid_low hqv).2.2.2
          have E1 := Lib.hid (burnE_flat vx HM.out.flat)
          have E2 := Lib.hid (burnE_flat vy hm2.flat)
          obtain ⟨ba, hba⟩ : ∃ b, backB wn hn X = b := ⟨_, rfl⟩
          have hbb : backB wn hn X2 = ba := by
            rw [← hba, Bool.eq_iff_iff, back_iff HSQ.out vy hm2.flat, back_iff HSZ.out vx HM.out.flat]
            exact (HS.out.recI fun j hj => (hmap j hj).2).symm
          have HVQ := Lib.hid hqv
          have HM2 := Lib.hid hm2
          have HMAP := Lib.hid hmap
          have HBA := Lib.hid hba
          have HBB := Lib.hid hbb
          clear hqv hm2 hmap hba hbb vx vy hqz
          clear hNN
          have hkn : ¬ wn * hn < n1 := by rw [HNX.out]; exact Nat.lt_irrefl _
          have q0_0 := l1.cell (k := 0) rfl
          have q0_1 := l1.cell (k := 1) rfl
          have q0_2 := l1.cell (k := 2) rfl
          have q0_l := l1.lt
          go_wp2_with fail
          clear q0_0 q0_1 q0_2 q0_l
          clear hkn
          refine (flat_calls wn hn _ d X U _ (S.at (v := .slice (some ⟨bd, od, none⟩) n1 c1) (xs := d) (by simp)) HV.out HM.out).mono ?_
          rintro e w' ⟨v, u, y, rfl, rfl, hR, hU⟩
          replace l1 := l1.later y
          replace lC := lC.later y
          replace hI := hI.later y
          replace S := S.later y
          obtain ⟨a25, n25, c25, rfl⟩ : ∃ a n c, v = .slice a n c := by obtain ⟨a, c, e⟩ := hR.form; exact ⟨a, _, c, e⟩
          replace S := S.cons hR
          obtain ⟨a26, n26, c26, rfl⟩ : ∃ a n c, u = .slice a n c := by obtain ⟨a, c, e⟩ := hU.form; exact ⟨a, _, c, e⟩
          replace S := S.cons hU
          obtain ⟨Y27, hZ⟩ : ∃ Z : Later Y3.w, Z.w = y.w := ⟨Y24.step (y), rfl⟩
          rw [← hZ] at S l1 lC hI ⊢
          clear hZ
          clear y hR hU
          have q0_0 := lC.cell (k := 0) rfl
          have q0_1 := lC.cell (k := 1) rfl
          have q0_2 := lC.cell (k := 2) rfl
          have q0_l := lC.lt
          go_wp2_with fail
          clear q0_0 q0_1 q0_2 q0_l
          obtain ⟨B28, hb⟩ : ∃ b, b = Y27.w.heap.size := ⟨_, rfl⟩
          have l28 : Lin (Y27.w.alloc (.cells #[.int .i64 wn, .int .i64 hn, .slice a25 n25 c25] 24)) B28 24 [.int .i64 wn, .int .i64 hn, .slice a25 n25 c25] := by rw [hb]; exact Lin.new _ _ [.int .i64 wn, .int .i64 hn, .slice a25 n25 c25]
          replace S := S.later (Later.new _ (.cells #[.int .i64 wn, .int .i64 hn, .slice a25 n25 c25] 24))
          rw [Later.new_w] at S
          replace l1 := l1.later (Later.new _ (.cells #[.int .i64 wn, .int .i64 hn, .slice a25 n25 c25] 24))
          rw [Later.new_w] at l1
          replace lC := lC.later (Later.new _ (.cells #[.int .i64 wn, .int .i64 hn, .slice a25 n25 c25] 24))
          rw [Later.new_w] at lC
          replace hI := hI.later (Later.new _ (.cells #[.int .i64 wn, .int .i64 hn, .slice a25 n25 c25] 24))
          rw [Later.new_w] at hI
          have hsz : (Y27.w.alloc (.cells #[.int .i64 wn, .int .i64 hn, .slice a25 n25 c25] 24)).heap.size = B28 + 1 := by rw [hb]; simp
          obtain ⟨Y29, hZ⟩ : ∃ Z : Later Y3.w, Z.w = Y27.w.alloc (.cells #[.int .i64 wn, .int .i64 hn, .slice a25 n25 c25] 24) := ⟨Y27.step (Later.new _ _), rfl⟩
          rw [← hZ] at S hsz l1 lC hI l28 ⊢
          clear hZ
          rw [← hb]
          clear hb
          clear hsz
          refine (flat_calls wn hn _ (turnL (wn * hn) (turnS wn hn c r false) d) X2 U2 _ (S.at (v := .slice aQ nQ cQ) (xs := (turnL (wn * hn) (turnS wn hn c r false) d)) (by simp)) HVQ.out HM2.out).mono ?_
          rintro e w' ⟨v, u, y, rfl, rfl, hR, hU⟩
          replace l1 := l1.later y
          replace lC := lC.later y
          replace hI := hI.later y
          replace l28 := l28.later y
          replace S := S.later y
          obtain ⟨a30, n30, c30, rfl⟩ : ∃ a n c, v = .slice a n c := by obtain ⟨a, c, e⟩ := hR.form; exact ⟨a, _, c, e⟩
          replace S := S.cons hR
          obtain ⟨a31, n31, c31, rfl⟩ : ∃ a n c, u = .slice a n c := by obtain ⟨a, c, e⟩ := hU.form; exact ⟨a, _, c, e⟩
          replace S := S.cons hU
          obtain ⟨Y32, hZ⟩ : ∃ Z : Later Y3.w, Z.w = y.w := ⟨Y29.step (y), rfl⟩
          rw [← hZ] at S l1 lC hI l28 ⊢
          clear hZ
          clear y hR hU
          have q0_0 := l28.cell (k := 0) rfl
          have q0_1 := l28.cell (k := 1) rfl
          have q0_2 := l28.cell (k := 2) rfl
          have q0_l := l28.lt
          go_wp2_with fail
          clear q0_0 q0_1 q0_2 q0_l
          obtain ⟨B33, hb⟩ : ∃ b, b = Y32.w.heap.size := ⟨_, rfl⟩
          have l33 : Lin (Y32.w.alloc (.cells #[.int .i64 wn, .int .i64 hn, .slice a30 n30 c30] 24)) B33 24 [.int .i64 wn, .int .i64 hn, .slice a30 n30 c30] := by rw [hb]; exact Lin.new _ _ [.int .i64 wn, .int .i64 hn, .slice a30 n30 c30]
          replace S := S.later (Later.new _ (.cells #[.int .i64 wn, .int .i64 hn, .slice a30 n30 c30] 24))
          rw [Later.new_w] at S
          replace l1 := l1.later (Later.new _ (.cells #[.int .i64 wn, .int .i64 hn, .slice a30 n30 c30] 24))
          rw [Later.new_w] at l1
          replace lC := lC.later (Later.new _ (.cells #[.int .i64 wn, .int .i64 hn, .slice a30 n30 c30] 24))
          rw [Later.new_w] at lC
          replace hI := hI.later (Later.new _ (.cells #[.int .i64 wn, .int .i64 hn, .slice a30 n30 c30] 24))
          rw [Later.new_w] at hI
          replace l28 := l28.later (Later.new _ (.cells #[.int .i64 wn, .int .i64 hn, .slice a30 n30 c30] 24))
          rw [Later.new_w] at l28
          have hsz : (Y32.w.alloc (.cells #[.int .i64 wn, .int .i64 hn, .slice a30 n30 c30] 24)).heap.size = B33 + 1 := by rw [hb]; simp
          obtain ⟨Y34, hZ⟩ : ∃ Z : Later Y3.w, Z.w = Y32.w.alloc (.cells #[.int .i64 wn, .int .i64 hn, .slice a30 n30 c30] 24) := ⟨Y32.step (Later.new _ _), rfl⟩
          rw [← hZ] at S hsz l1 lC hI l28 l33 ⊢
          clear hZ
          rw [← hb]
          clear hb
          clear hsz
          obtain ⟨bp, op, kp, e, hkp, hbp, hgp⟩ := (S.at (v := .slice a25 n25 c25) (xs := X) (by simp)).at (k := 0) (by rw [HM.out.lenX]; exact h1w)
          injection e with e1 e2 e3
          subst e1 e3
          have HNp := Lib.hid e2
          have HGp := Lib.hid hgp
          clear e2 hgp
          obtain ⟨bq, oq, kq, e, hkq, hbq, hgq⟩ := (S.at (v := .slice a30 n30 c30) (xs := X2) (by simp)).at (k := 0) (by rw [HM2.out.lenX]; exact h1w)
          injection e with e1 e2 e3
          subst e1 e3
          have HNq := Lib.hid e2
          have HGq := Lib.hid hgq
          clear e2 hgq
          obtain ⟨bu, ou, ku, e, hku, hbu, hgu⟩ := (S.at (v := .slice a26 n26 c26) (xs := U) (by simp)).at (k := 0) (by rw [HM.out.lenU]; exact h1w)
          injection e with e1 e2 e3
          subst e1 e3
          have HNu := Lib.hid e2
          have HGu := Lib.hid hgu
          clear e2 hgu
          obtain ⟨bw, ow, kw, e, hkw, hbw, hgw⟩ := (S.at (v := .slice a31 n31 c31) (xs := U2) (by simp)).at (k := 0) (by rw [HM2.out.lenU]; exact h1w)
          injection e with e1 e2 e3
          subst e1 e3
          have HNw := Lib.hid e2
          have HGw := Lib.hid hgw
          clear e2 hgw
          have HL1 := Lib.hid (HNp.out.trans HM.out.lenX)
          have HL2 := Lib.hid (show _ = wn * hn from (HNq.out.trans HM2.out.lenX).trans rfl)
          have HL3 := Lib.hid (HNu.out.trans HM.out.lenU)
          have HL4 := Lib.hid (show _ = wn * hn from (HNw.out.trans HM2.out.lenU).trans rfl)
          obtain ⟨bf, of', kf, e, hkf, hbf, hgf⟩ := hI.at (k := 0) (by rw [fromL_len]; exact h1w)
          injection e with e1 e2 e3
          subst e1 e3
          have HGF := Lib.hid hgf
          clear e2 hgf
          have q0_0 := l28.cell (k := 0) rfl
          have q0_1 := l28.cell (k := 1) rfl
          have q0_2 := l28.cell (k := 2) rfl
          have q0_l := l28.lt
          have q1_0 := l33.cell (k := 0) rfl
          have q1_1 := l33.cell (k := 1) rfl
          have q1_2 := l33.cell (k := 2) rfl
          have q1_l := l33.lt
          go_wp2
          go_loopw [20] (fun c wr => ∃ (k : Nat) (V : Later Y34.w), wr = V.w ∧ k ≤ wn * hn ∧ c = .int .i64 k) (fun c _ => wn * hn - (intOf c).toNat)
          case atStart => exact ⟨0, Later.self _, rfl, Nat.zero_le _, rfl⟩
          case round =>
            obtain ⟨k, V, rfl, hk, rfl⟩ := hrel
            by_cases hlt : k < wn * hn
            · obtain ⟨m, hm⟩ : ∃ m, (turnS wn hn c r false) k = m := ⟨_, rfl⟩
              have hmN := HS.out.ls k hlt
              have hmap := HMAP.out k hlt
              have gf := (V.cell hbf).trans (HGF.out k (by rw [fromL_len]; exact hlt))
              rw [fromL_at _ _ _ _ _ hlt, hm] at gf
              rw [hm] at hmN hmap
              have gp := (V.cell hbp).trans (HGp.out m (by rw [HM.out.lenX]; exact hmN))
              have gq := (V.cell hbq).trans (HGq.out k (by rw [HM2.out.lenX]; exact hlt))
              have gu := (V.cell hbu).trans (HGu.out m (by rw [HM.out.lenU]; exact hmN))
              have gw := (V.cell hbw).trans (HGw.out k (by rw [HM2.out.lenU]; exact hlt))
              rw [nth_ofL] at gp gq gu gw
              rw [hmap.2] at gq
              rw [hmap.1] at gw
              have lp := Nat.lt_of_lt_of_le hbp V.size
              have lq := Nat.lt_of_lt_of_le hbq V.size
              have lu := Nat.lt_of_lt_of_le hbu V.size
              have lw := Nat.lt_of_lt_of_le hbw V.size
              have lf := Nat.lt_of_lt_of_le hbf V.size
              have j1 : m < n25 := by rw [HL1.out]; exact hmN
              have j2 : k < n30 := by rw [HL2.out]; exact hlt
              have j3 : m < n26 := by rw [HL3.out]; exact hmN
              have j4 : k < n31 := by rw [HL4.out]; exact hlt
              have j5 : k < nfr := by rw [hnf.out]; exact hlt
              have c0 := (V.cell q0_l).trans q0_2
              have c1 := (V.cell q1_l).trans q1_2
              have cl := Nat.lt_of_lt_of_le q0_l V.size
              have dl := Nat.lt_of_lt_of_le q1_l V.size
              clear hm hmap
              go_wp2
              refine Mix.region_mixL (Mix.kinds [] [] []) (by kernel_rfl) (by kernel_rfl) ?_
              repeat ((with_reducible refine Mix.atCons ?_); first | refine Mix.skipU (by rfl) rfl (by rfl) ?_ | (refine Mix.val rfl rfl (by rfl) (fun K hK => ?_); go_big_quiet_op; refine hK _ ?_; clear hK K) | (refine Mix.skip (by rfl) ?_; go_frame))
              refine Mix.done (fun z3 => ?_)
              go_wp2
              go_roundw
              case rel => exact ⟨k + 1, V.step z3, rfl, by omega, by go_num⟩
              case measure => simp [intOf]; omega
            · have hku : ¬ k < nfr := by rw [hnf.out]; exact hlt
              clear q0_0 q0_1 q0_2 q0_l q1_0 q1_1 q1_2 q1_l
              replace l1 := l1.later V
              replace lC := lC.later V
              replace hI := hI.later V
              replace l28 := l28.later V
              replace l33 := l33.later V
              replace S := S.later V
              obtain ⟨Y35, hZ⟩ : ∃ Z : Later Y3.w, Z.w = V.w := ⟨Y34.step (V), rfl⟩
              rw [← hZ] at S l1 lC hI l28 l33 ⊢
              clear hZ
              have q0_0 := l28.cell (k := 0) rfl
              have q0_1 := l28.cell (k := 1) rfl
              have q0_2 := l28.cell (k := 2) rfl
              have q0_l := l28.lt
              go_wp2_with fail
              clear q0_0 q0_1 q0_2 q0_l
              refine (Back_calls wn hn _ X _ (S.at (v := .slice (some ⟨bp, op, none⟩) n25 c25) (xs := X) (by simp))).mono ?_
              rintro e w' ⟨rfl, y, rfl⟩
              rw [HBA.out, E1.out]
              replace l1 := l1.later y
              replace lC := lC.later y
              replace hI := hI.later y
              replace l28 := l28.later y
              replace l33 := l33.later y
              replace S := S.later y
              obtain ⟨Y36, hZ⟩ : ∃ Z : Later Y3.w, Z.w = y.w := ⟨Y35.step (y), rfl⟩
              rw [← hZ] at S l1 lC hI l28 l33 ⊢
              clear hZ
              clear y
              have q0_0 := l33.cell (k := 0) rfl
              have q0_1 := l33.cell (k := 1) rfl
              have q0_2 := l33.cell (k := 2) rfl
              have q0_l := l33.lt
              go_wp2_with fail
              clear q0_0 q0_1 q0_2 q0_l
              refine (Back_calls wn hn _ X2 _ (S.at (v := .slice (some ⟨bq, oq, none⟩) n30 c30) (xs := X2) (by simp))).mono ?_
              rintro e w' ⟨rfl, y, rfl⟩
              rw [HBB.out, E2.out]
              replace l1 := l1.later y
              replace lC := lC.later y
              replace hI := hI.later y
              replace l28 := l28.later y
              replace l33 := l33.later y
              replace S := S.later y
              obtain ⟨Y37, hZ⟩ : ∃ Z : Later Y3.w, Z.w = y.w := ⟨Y36.step (y), rfl⟩
              rw [← hZ] at S l1 lC hI l28 l33 ⊢
              clear hZ
              clear y
              cases ba
              all_goals
                go_wp2_with fail
                refine (Works_calls _).mono ?_
                rintro e w' ⟨rfl, y, rfl⟩
                go_wp2
                go_ret
                exact ⟨rfl, Y3.step (Y37.step y), rfl⟩
        have hkn : k < n1 := by rw [HNX.out]; exact hlt
        obtain ⟨a, ha⟩ : ∃ a, k % wn = a := ⟨_, rfl⟩
        obtain ⟨b, hb⟩ : ∃ b, k / wn = b := ⟨_, rfl⟩
        have ea : (k : Int) % (wn : Int) = (a : Int) := by rw [← ha]; exact (Int.natCast_emod _ _).symm
        have eb : (k : Int) / (wn : Int) = (b : Int) := by rw [← hb]; exact (Int.natCast_ediv _ _).symm
        have hal : a < wn := by rw [← ha]; exact Nat.mod_lt _ (by omega)
        have hbl : b < hn := by rw [← hb]; exact Nat.div_lt_of_lt_mul (by rw [show wn * hn = wn * hn from rfl]; exact hlt)
        have hq0 : (wn : Int) ≠ 0 := by omega
        have hSk : turnS wn hn c r false k = (bif r then hn - 1 - b else b) * wn + (bif c then wn - 1 - a else a) := by rw [turnS, ha, hb]; rfl
        have hSl := HS.out.ls k hlt
        rw [hSk] at hSl
        clear ha hb
        go_wp2
        refine Mix.region_mixL (Mix.kinds [] [] []) (by kernel_rfl) (by kernel_rfl) ?_
        repeat ((with_reducible refine Mix.atCons ?_); first | refine Mix.skipU (by rfl) rfl (by rfl) ?_ | (refine Mix.val rfl rfl (by rfl) (fun K hK => ?_); go_big_quiet_op; refine hK _ ?_; clear hK K) | (refine Mix.skip (by rfl) ?_; go_frame))
        refine Mix.done (fun z3 => ?_)
        have hM2 := hM.later z3
        have hF2 := hF.later z3
        obtain ⟨V2, hV2⟩ : ∃ V2 : Later Y3.w, V2.w = z3.w := ⟨V.step z3, rfl⟩
        rw [← hV2] at hM2 hF2 ⊢
        clear hV2 z3 hM hF v0 v1 v2 vl u0 u1 u2 ul V
        have v0 := (l1.later V2).cell (k := 0) rfl
        have v1 := (l1.later V2).cell (k := 1) rfl
        have v2 := (l1.later V2).cell (k := 2) rfl
        have vl := (l1.later V2).lt
        have hfl : ((fromL wn hn c r false k)).length + 1 ≤ 1000000000000 := by rw [fromL_len]; omega
        cases c
        all_goals cases r
        all_goals simp only [cond_true, cond_false] at hSk hSl
        · obtain ⟨x2, hx2⟩ : ∃ x2, a = x2 := ⟨_, rfl⟩
          obtain ⟨y2, hy2⟩ : ∃ y2, b = y2 := ⟨_, rfl⟩
          rw [hx2, hy2] at hSk hSl
          subst hx2
          subst hy2
          obtain ⟨P, hP⟩ : ∃ P, b * wn = P := ⟨_, rfl⟩
          have eP : IntKind.i64.wrap ((b : Int) * (wn : Int)) = (P : Int) := by rw [← Int.natCast_mul, hP]; exact IntWalk.i64_in _ (by rw [hP] at hSl; omega)
          rw [hP] at hSk hSl
          clear hP
          obtain ⟨K, hK⟩ : ∃ K, P + a = K := ⟨_, rfl⟩
          have eK : (P : Int) + (a : Int) = (K : Int) := by omega
          rw [hK] at hSk hSl
          have hPK : P ≤ K := by omega
          clear hK
          obtain ⟨vf2, q1, hrun, hM3, hgr⟩ := app_int_stepM V2.le hM2 (K : Int) hfl 38
          obtain ⟨af2, nf2, cf2, rfl⟩ := hM3.form'
          have HRF := Lib.hid hrun
          have hF3 := hF2.kept hgr q1.le (hM2.ne_plate hF2.lin).symm (hM2.ne_N hF2.own)
          have HF3 := Lib.hid hF3
          have HM3 := Lib.hid hM3
          have HSK := Lib.hid hSk
          have gd := q1.cell (o := od + K) hbd
          rw [HGD.out K (by rw [HL.out]; exact hSl), nth_ofL] at gd
          have ld := Nat.lt_of_lt_of_le hbd q1.size
          have hKn : K < n1 := by rw [HNX.out]; exact hSl
          obtain ⟨aq, nq, cq, rfl⟩ := hF3.own.form'
          clear hrun hgr hM3 hF3 hM2 hF2 hSk
          go_wp2_with ((with_reducible show wpList _ _ _ (⟨some 79, _, _, _, _, _⟩ :: _) _ _); refine Lib.wpList_append_run_sl _ rfl _ _ 38 rfl _ _ rfl rfl HRF.out ?_)
          refine Mix.region_mixL (Mix.kinds [12] [] [13, 14, 15]) (by kernel_rfl) (by kernel_rfl) ?_
          have HF3' := HF3.out
          have v0 := (l1.later q1).cell (k := 0) rfl
          have v1 := (l1.later q1).cell (k := 1) rfl
          have v2 := (l1.later q1).cell (k := 2) rfl
          have vl := (l1.later q1).lt
          have u2 := HF3'.lin.cell (k := 2) rfl
          have ul := HF3'.lin.lt
          repeat ((with_reducible refine Mix.atCons ?_); first | refine Mix.skipU (by rfl) rfl (by rfl) ?_ | (refine Mix.val rfl rfl (by rfl) (fun K hK => ?_); go_big_quiet_op; refine hK _ ?_; clear hK K) | (refine Mix.skip (by rfl) ?_; go_frame))
          refine Mix.new rfl (by rfl) (fun b => .slice (some ⟨b, 0, none⟩) 1 1) (.cells #[.int .i64 (ofL d K)] 2) (fun w => by simp [go_sem]) (fun E x2 hE hxE => ?_)
          refine Mix.lastR rfl (by rfl) (by decide) (fun x3 K3 hK3 => ?_)
          have hF4 := (HF3'.later x2).later x3
          have hM4 := (HM3.out.later x2).later x3
          have hcE : x3.w.cell? ⟨E, 0, none⟩ = some (.int .i64 (ofL d K)) := by
            have h1 := (x3.le.block E (Array.getElem?_eq_some_iff.1 hxE).1).trans hxE
            simp [World.cell?, h1]
          obtain ⟨v4, q4, hrun4, hL4, hO4, hn4, hg4⟩ := hF4.appAt E 1 (ofL d K) hcE (by rw [turnL_len]; omega) 22
          obtain ⟨a4, n4, c4, rfl⟩ := hO4.form'
          have hM5 := hM4.kept hg4 (IntsN.ne_M hM4 hF4.own)
          refine Lib.wp_append_run_sl _ _ _ 22 rfl _ _ rfl rfl hrun4 ?_
          refine hK3 _ _ ?_
          clear hK3 hrun4 hg4 hM4 hF4 hcE hxE hE HF3'
          refine Mix.lastR rfl (by rfl) (by decide) (fun x4 K4 hK4 => ?_)
          go_wp2_with fail
          refine Mix.last rfl (by rfl) (fun x5 K5 hK5 => ?_)
          have hL4' := hL4.later x4
          have hO4' := hO4.later x4
          have hM5' := hM5.later x4
          have hB4' := q4.le.trans (x4.le.mono q4.le.size)
          have hL5 := hL4'.later x5
          clear u2 ul
          have u2 := hL5.cell (k := 2) rfl
          have uf := hL5.frozen 2
          have ul := hL5.lt
          have hM6 := hM5'.later x5
          have HM6 := Lib.hid (hM6.kept (grownBy_setCell_at x5.w C 2 (.slice a4 n4 c4)) (.inr (hM6.ne_plate hL5)))
          have HF6 := Lib.hid (Fld.stored (k := 2) (hB4'.trans (x5.le.mono hB4'.size)) hL5 (by simp) (hO4'.later x5) hn4 hCY)
          clear hL5 hM6 hL4 hM5 hO4 hn4 hL4' hO4' hM5' hB4'
          go_wp2_with fail
          refine Mix.done (fun x6 => ?_)
          have HF7 := Lib.hid (HF6.out.later x6)
          have HM7 := Lib.hid (HM6.out.later x6)
          rw [← HSK.out] at HF7 HM7
          clear HF6 HM6 u2 uf ul v0 v1 v2 vl
          go_wp2
          go_roundw
          case rel => exact ⟨k + 1, ⟨x6.w, HF7.out.le⟩, _, rfl, by go_num, by omega, by rw [fromL_snoc]; exact HM7.out, by rw [turnL_snoc]; exact HF7.out⟩
          case measure => simp [intOf]; omega
        · obtain ⟨x2, hx2⟩ : ∃ x2, a = x2 := ⟨_, rfl⟩
          obtain ⟨y2, hy2⟩ : ∃ y2, hn - 1 - b = y2 := ⟨_, rfl⟩
          rw [hx2, hy2] at hSk hSl
          subst hx2
          have ey : (hn : Int) - 1 - (b : Int) = (y2 : Int) := by omega
          clear hy2
          obtain ⟨P, hP⟩ : ∃ P, y2 * wn = P := ⟨_, rfl⟩
          have eP : IntKind.i64.wrap ((y2 : Int) * (wn : Int)) = (P : Int) := by rw [← Int.natCast_mul, hP]; exact IntWalk.i64_in _ (by rw [hP] at hSl; omega)
          rw [hP] at hSk hSl
          clear hP
          obtain ⟨K, hK⟩ : ∃ K, P + a = K := ⟨_, rfl⟩
          have eK : (P : Int) + (a : Int) = (K : Int) := by omega
          rw [hK] at hSk hSl
          have hPK : P ≤ K := by omega
          clear hK
          obtain ⟨vf2, q1, hrun, hM3, hgr⟩ := app_int_stepM V2.le hM2 (K : Int) hfl 38
          obtain ⟨af2, nf2, cf2, rfl⟩ := hM3.form'
          have HRF := Lib.hid hrun
          have hF3 := hF2.kept hgr q1.le (hM2.ne_plate hF2.lin).symm (hM2.ne_N hF2.own)
          have HF3 := Lib.hid hF3
          have HM3 := Lib.hid hM3
          have HSK := Lib.hid hSk
          have gd := q1.cell (o := od + K) hbd
          rw [HGD.out K (by rw [HL.out]; exact hSl), nth_ofL] at gd
          have ld := Nat.lt_of_lt_of_le hbd q1.size
          have hKn : K < n1 := by rw [HNX.out]; exact hSl
          obtain ⟨aq, nq, cq, rfl⟩ := hF3.own.form'
          clear hrun hgr hM3 hF3 hM2 hF2 hSk
          go_wp2_with ((with_reducible show wpList _ _ _ (⟨some 79, _, _, _, _, _⟩ :: _) _ _); refine Lib.wpList_append_run_sl _ rfl _ _ 38 rfl _ _ rfl rfl HRF.out ?_)
          refine Mix.region_mixL (Mix.kinds [12] [] [13, 14, 15]) (by kernel_rfl) (by kernel_rfl) ?_
          have HF3' := HF3.out
          have v0 := (l1.later q1).cell (k := 0) rfl
          have v1 := (l1.later q1).cell (k := 1) rfl
          have v2 := (l1.later q1).cell (k := 2) rfl
          have vl := (l1.later q1).lt
          have u2 := HF3'.lin.cell (k := 2) rfl
          have ul := HF3'.lin.lt
          repeat ((with_reducible refine Mix.atCons ?_); first | refine Mix.skipU (by rfl) rfl (by rfl) ?_ | (refine Mix.val rfl rfl (by rfl) (fun K hK => ?_); go_big_quiet_op; refine hK _ ?_; clear hK K) | (refine Mix.skip (by rfl) ?_; go_frame))
          refine Mix.new rfl (by rfl) (fun b => .slice (some ⟨b, 0, none⟩) 1 1) (.cells #[.int .i64 (ofL d K)] 2) (fun w => by simp [go_sem]) (fun E x2 hE hxE => ?_)
          refine Mix.lastR rfl (by rfl) (by decide) (fun x3 K3 hK3 => ?_)
          have hF4 := (HF3'.later x2).later x3
          have hM4 := (HM3.out.later x2).later x3
          have hcE : x3.w.cell? ⟨E, 0, none⟩ = some (.int .i64 (ofL d K)) := by
            have h1 := (x3.le.block E (Array.getElem?_eq_some_iff.1 hxE).1).trans hxE
            simp [World.cell?, h1]
          obtain ⟨v4, q4, hrun4, hL4, hO4, hn4, hg4⟩ := hF4.appAt E 1 (ofL d K) hcE (by rw [turnL_len]; omega) 22
          obtain ⟨a4, n4, c4, rfl⟩ := hO4.form'
          have hM5 := hM4.kept hg4 (IntsN.ne_M hM4 hF4.own)
          refine Lib.wp_append_run_sl _ _ _ 22 rfl _ _ rfl rfl hrun4 ?_
          refine hK3 _ _ ?_
          clear hK3 hrun4 hg4 hM4 hF4 hcE hxE hE HF3'
          refine Mix.lastR rfl (by rfl) (by decide) (fun x4 K4 hK4 => ?_)
          go_wp2_with fail
          refine Mix.last rfl (by rfl) (fun x5 K5 hK5 => ?_)
          have hL4' := hL4.later x4
          have hO4' := hO4.later x4
          have hM5' := hM5.later x4
          have hB4' := q4.le.trans (x4.le.mono q4.le.size)
          have hL5 := hL4'.later x5
          clear u2 ul
          have u2 := hL5.cell (k := 2) rfl
          have uf := hL5.frozen 2
          have ul := hL5.lt
          have hM6 := hM5'.later x5
          have HM6 := Lib.hid (hM6.kept (grownBy_setCell_at x5.w C 2 (.slice a4 n4 c4)) (.inr (hM6.ne_plate hL5)))
          have HF6 := Lib.hid (Fld.stored (k := 2) (hB4'.trans (x5.le.mono hB4'.size)) hL5 (by simp) (hO4'.later x5) hn4 hCY)
          clear hL5 hM6 hL4 hM5 hO4 hn4 hL4' hO4' hM5' hB4'
          go_wp2_with fail
          refine Mix.done (fun x6 => ?_)
          have HF7 := Lib.hid (HF6.out.later x6)
          have HM7 := Lib.hid (HM6.out.later x6)
          rw [← HSK.out] at HF7 HM7
          clear HF6 HM6 u2 uf ul v0 v1 v2 vl
          go_wp2
          go_roundw
          case rel => exact ⟨k + 1, ⟨x6.w, HF7.out.le⟩, _, rfl, by go_num, by omega, by rw [fromL_snoc]; exact HM7.out, by rw [turnL_snoc]; exact HF7.out⟩
          case measure => simp [intOf]; omega
        · obtain ⟨x2, hx2⟩ : ∃ x2, wn - 1 - a = x2 := ⟨_, rfl⟩
          obtain ⟨y2, hy2⟩ : ∃ y2, b = y2 := ⟨_, rfl⟩
          rw [hx2, hy2] at hSk hSl
          have ex : (wn : Int) - 1 - (a : Int) = (x2 : Int) := by omega
          subst hy2
          clear hx2
          obtain ⟨P, hP⟩ : ∃ P, b * wn = P := ⟨_, rfl⟩
          have eP : IntKind.i64.wrap ((b : Int) * (wn : Int)) = (P : Int) := by rw [← Int.natCast_mul, hP]; exact IntWalk.i64_in _ (by rw [hP] at hSl; omega)
          rw [hP] at hSk hSl
          clear hP
          obtain ⟨K, hK⟩ : ∃ K, P + x2 = K := ⟨_, rfl⟩
          have eK : (P : Int) + (x2 : Int) = (K : Int) := by omega
          rw [hK] at hSk hSl
          have hPK : P ≤ K := by omega
          clear hK
          obtain ⟨vf2, q1, hrun, hM3, hgr⟩ := app_int_stepM V2.le hM2 (K : Int) hfl 38
          obtain ⟨af2, nf2, cf2, rfl⟩ := hM3.form'
          have HRF := Lib.hid hrun
          have hF3 := hF2.kept hgr q1.le (hM2.ne_plate hF2.lin).symm (hM2.ne_N hF2.own)
          have HF3 := Lib.hid hF3
          have HM3 := Lib.hid hM3
          have HSK := Lib.hid hSk
          have gd := q1.cell (o := od + K) hbd
          rw [HGD.out K (by rw [HL.out]; exact hSl), nth_ofL] at gd
          have ld := Nat.lt_of_lt_of_le hbd q1.size
          have hKn : K < n1 := by rw [HNX.out]; exact hSl
          obtain ⟨aq, nq, cq, rfl⟩ := hF3.own.form'
          clear hrun hgr hM3 hF3 hM2 hF2 hSk
          go_wp2_with ((with_reducible show wpList _ _ _ (⟨some 79, _, _, _, _, _⟩ :: _) _ _); refine Lib.wpList_append_run_sl _ rfl _ _ 38 rfl _ _ rfl rfl HRF.out ?_)
          refine Mix.region_mixL (Mix.kinds [12] [] [13, 14, 15]) (by kernel_rfl) (by kernel_rfl) ?_
          have HF3' := HF3.out
          have v0 := (l1.later q1).cell (k := 0) rfl
          have v1 := (l1.later q1).cell (k := 1) rfl
          have v2 := (l1.later q1).cell (k := 2) rfl
          have vl := (l1.later q1).lt
          have u2 := HF3'.lin.cell (k := 2) rfl
          have ul := HF3'.lin.lt
          repeat ((with_reducible refine Mix.atCons ?_); first | refine Mix.skipU (by rfl) rfl (by rfl) ?_ | (refine Mix.val rfl rfl (by rfl) (fun K hK => ?_); go_big_quiet_op; refine hK _ ?_; clear hK K) | (refine Mix.skip (by rfl) ?_; go_frame))
          refine Mix.new rfl (by rfl) (fun b => .slice (some ⟨b, 0, none⟩) 1 1) (.cells #[.int .i64 (ofL d K)] 2) (fun w => by simp [go_sem]) (fun E x2 hE hxE => ?_)
          refine Mix.lastR rfl (by rfl) (by decide) (fun x3 K3 hK3 => ?_)
          have hF4 := (HF3'.later x2).later x3
          have hM4 := (HM3.out.later x2).later x3
          have hcE : x3.w.cell? ⟨E, 0, none⟩ = some (.int .i64 (ofL d K)) := by
            have h1 := (x3.le.block E (Array.getElem?_eq_some_iff.1 hxE).1).trans hxE
            simp [World.cell?, h1]
          obtain ⟨v4, q4, hrun4, hL4, hO4, hn4, hg4⟩ := hF4.appAt E 1 (ofL d K) hcE (by rw [turnL_len]; omega) 22
          obtain ⟨a4, n4, c4, rfl⟩ := hO4.form'
          have hM5 := hM4.kept hg4 (IntsN.ne_M hM4 hF4.own)
          refine Lib.wp_append_run_sl _ _ _ 22 rfl _ _ rfl rfl hrun4 ?_
          refine hK3 _ _ ?_
          clear hK3 hrun4 hg4 hM4 hF4 hcE hxE hE HF3'
          refine Mix.lastR rfl (by rfl) (by decide) (fun x4 K4 hK4 => ?_)
          go_wp2_with fail
          refine Mix.last rfl (by rfl) (fun x5 K5 hK5 => ?_)
          have hL4' := hL4.later x4
          have hO4' := hO4.later x4
          have hM5' := hM5.later x4
          have hB4' := q4.le.trans (x4.le.mono q4.le.size)
          have hL5 := hL4'.later x5
          clear u2 ul
          have u2 := hL5.cell (k := 2) rfl
          have uf := hL5.frozen 2
          have ul := hL5.lt
          have hM6 := hM5'.later x5
          have HM6 := Lib.hid (hM6.kept (grownBy_setCell_at x5.w C 2 (.slice a4 n4 c4)) (.inr (hM6.ne_plate hL5)))
          have HF6 := Lib.hid (Fld.stored (k := 2) (hB4'.trans (x5.le.mono hB4'.size)) hL5 (by simp) (hO4'.later x5) hn4 hCY)
          clear hL5 hM6 hL4 hM5 hO4 hn4 hL4' hO4' hM5' hB4'
          go_wp2_with fail
          refine Mix.done (fun x6 => ?_)
          have HF7 := Lib.hid (HF6.out.later x6)
          have HM7 := Lib.hid (HM6.out.later x6)
          rw [← HSK.out] at HF7 HM7
          clear HF6 HM6 u2 uf ul v0 v1 v2 vl
          go_wp2
          go_roundw
          case rel => exact ⟨k + 1, ⟨x6.w, HF7.out.le⟩, _, rfl, by go_num, by omega, by rw [fromL_snoc]; exact HM7.out, by rw [turnL_snoc]; exact HF7.out⟩
          case measure => simp [intOf]; omega
        · obtain ⟨x2, hx2⟩ : ∃ x2, wn - 1 - a = x2 := ⟨_, rfl⟩
          obtain ⟨y2, hy2⟩ : ∃ y2, hn - 1 - b = y2 := ⟨_, rfl⟩
          rw [hx2, hy2] at hSk hSl
          have ex : (wn : Int) - 1 - (a : Int) = (x2 : Int) := by omega
          have ey : (hn : Int) - 1 - (b : Int) = (y2 : Int) := by omega
          clear hx2
          clear hy2
          obtain ⟨P, hP⟩ : ∃ P, y2 * wn = P := ⟨_, rfl⟩
          have eP : IntKind.i64.wrap ((y2 : Int) * (wn : Int)) = (P : Int) := by rw [← Int.natCast_mul, hP]; exact IntWalk.i64_in _ (by rw [hP] at hSl; omega)
          rw [hP] at hSk hSl
          clear hP
          obtain ⟨K, hK⟩ : ∃ K, P + x2 = K := ⟨_, rfl⟩
          have eK : (P : Int) + (x2 : Int) = (K : Int) := by omega
          rw [hK] at hSk hSl
          have hPK : P ≤ K := by omega
          clear hK
          obtain ⟨vf2, q1, hrun, hM3, hgr⟩ := app_int_stepM V2.le hM2 (K : Int) hfl 38
          obtain ⟨af2, nf2, cf2, rfl⟩ := hM3.form'
          have HRF := Lib.hid hrun
          have hF3 := hF2.kept hgr q1.le (hM2.ne_plate hF2.lin).symm (hM2.ne_N hF2.own)
          have HF3 := Lib.hid hF3
          have HM3 := Lib.hid hM3
          have HSK := Lib.hid hSk
          have gd := q1.cell (o := od + K) hbd
          rw [HGD.out K (by rw [HL.out]; exact hSl), nth_ofL] at gd
          have ld := Nat.lt_of_lt_of_le hbd q1.size
          have hKn : K < n1 := by rw [HNX.out]; exact hSl
          obtain ⟨aq, nq, cq, rfl⟩ := hF3.own.form'
          clear hrun hgr hM3 hF3 hM2 hF2 hSk
          go_wp2_with ((with_reducible show wpList _ _ _ (⟨some 79, _, _, _, _, _⟩ :: _) _ _); refine Lib.wpList_append_run_sl _ rfl _ _ 38 rfl _ _ rfl rfl HRF.out ?_)
          refine Mix.region_mixL (Mix.kinds [12] [] [13, 14, 15]) (by kernel_rfl) (by kernel_rfl) ?_
          have HF3' := HF3.out
          have v0 := (l1.later q1).cell (k := 0) rfl
          have v1 := (l1.later q1).cell (k := 1) rfl
          have v2 := (l1.later q1).cell (k := 2) rfl
          have vl := (l1.later q1).lt
          have u2 := HF3'.lin.cell (k := 2) rfl
          have ul := HF3'.lin.lt
          repeat ((with_reducible refine Mix.atCons ?_); first | refine Mix.skipU (by rfl) rfl (by rfl) ?_ | (refine Mix.val rfl rfl (by rfl) (fun K hK => ?_); go_big_quiet_op; refine hK _ ?_; clear hK K) | (refine Mix.skip (by rfl) ?_; go_frame))
          refine Mix.new rfl (by rfl) (fun b => .slice (some ⟨b, 0, none⟩) 1 1) (.cells #[.int .i64 (ofL d K)] 2) (fun w => by simp [go_sem]) (fun E x2 hE hxE => ?_)
          refine Mix.lastR rfl (by rfl) (by decide) (fun x3 K3 hK3 => ?_)
          have hF4 := (HF3'.later x2).later x3
          have hM4 := (HM3.out.later x2).later x3
          have hcE : x3.w.cell? ⟨E, 0, none⟩ = some (.int .i64 (ofL d K)) := by
            have h1 := (x3.le.block E (Array.getElem?_eq_some_iff.1 hxE).1).trans hxE
            simp [World.cell?, h1]
          obtain ⟨v4, q4, hrun4, hL4, hO4, hn4, hg4⟩ := hF4.appAt E 1 (ofL d K) hcE (by rw [turnL_len]; omega) 22
          obtain ⟨a4, n4, c4, rfl⟩ := hO4.form'
          have hM5 := hM4.kept hg4 (IntsN.ne_M hM4 hF4.own)
          refine Lib.wp_append_run_sl _ _ _ 22 rfl _ _ rfl rfl hrun4 ?_
          refine hK3 _ _ ?_
          clear hK3 hrun4 hg4 hM4 hF4 hcE hxE hE HF3'
          refine Mix.lastR rfl (by rfl) (by decide) (fun x4 K4 hK4 => ?_)
          go_wp2_with fail
          refine Mix.last rfl (by rfl) (fun x5 K5 hK5 => ?_)
          have hL4' := hL4.later x4
          have hO4' := hO4.later x4
          have hM5' := hM5.later x4
          have hB4' := q4.le.trans (x4.le.mono q4.le.size)
          have hL5 := hL4'.later x5
          clear u2 ul
          have u2 := hL5.cell (k := 2) rfl
          have uf := hL5.frozen 2
          have ul := hL5.lt
          have hM6 := hM5'.later x5
          have HM6 := Lib.hid (hM6.kept (grownBy_setCell_at x5.w C 2 (.slice a4 n4 c4)) (.inr (hM6.ne_plate hL5)))
          have HF6 := Lib.hid (Fld.stored (k := 2) (hB4'.trans (x5.le.mono hB4'.size)) hL5 (by simp) (hO4'.later x5) hn4 hCY)
          clear hL5 hM6 hL4 hM5 hO4 hn4 hL4' hO4' hM5' hB4'
          go_wp2_with fail
          refine Mix.done (fun x6 => ?_)
          have HF7 := Lib.hid (HF6.out.later x6)
          have HM7 := Lib.hid (HM6.out.later x6)
          rw [← HSK.out] at HF7 HM7
          clear HF6 HM6 u2 uf ul v0 v1 v2 vl
          go_wp2
          go_roundw
          case rel => exact ⟨k + 1, ⟨x6.w, HF7.out.le⟩, _, rfl, by go_num, by omega, by rw [fromL_snoc]; exact HM7.out, by rw [turnL_snoc]; exact HF7.out⟩
          case measure => simp [intOf]; omega
    · have q0_0 := l1.cell (k := 0) rfl
      have q0_1 := l1.cell (k := 1) rfl
      have q0_2 := l1.cell (k := 2) rfl
      have q0_l := l1.lt
      go_wp2
      clear q0_0 q0_1 q0_2 q0_l
      obtain ⟨C, hC⟩ : ∃ C, C = Y3.w.heap.size := ⟨_, rfl⟩
      obtain ⟨V0, hV0⟩ : ∃ V : Later Y3.w, V.w = Y3.w.alloc (.cells #[.int .i64 wn, .int .i64 hn, .slice none 0 0] 24) := ⟨Later.new _ _, rfl⟩
      have lC : Lin V0.w C 24 [.int .i64 wn, .int .i64 hn, .slice none 0 0] := by rw [hV0, hC]; exact Lin.new _ _ [.int .i64 wn, .int .i64 hn, .slice none 0 0]
      have hCY : Y3.w.heap.size ≤ C := Nat.le_of_eq hC.symm
      rw [← hV0, ← hC]
      clear hV0 hC
      have hBC : B1 ≠ C := by have := l1.lt; omega
      refine wp_region_held (S := fun w' => Lin w' B1 24 [.int .i64 wn, .int .i64 hn, .slice a1 n1 c1]) (by kernel_rfl) ?_
      show wpAnyH _ _ _ _ _ _ _ _ V0.w.drew
      obtain ⟨V9, hV9⟩ : ∃ V : Later Y3.w, V.w = V0.w.drew := ⟨V0.step (Later.draw V0.w), rfl⟩
      have lE := l1.later V9
      have k1 : Lin V9.w C 24 [.int .i64 wn, .int .i64 hn, .slice none 0 0] := by rw [hV9]; exact lC.later (Later.draw V0.w)
      rw [← hV9]
      clear hV9 lC V0
      refine wpAnyH_take (i := 0) (v := .pointer (some ⟨B1, 1, none⟩)) rfl (by kernel_rfl) (by kernel_rfl) (by kernel_rfl) (fun _ _ _ h => h) (Yields.yieldsIf (.inl ⟨by rfl, fun w => by rfl⟩)) lE ?_
      simp only [List.getElem_toArray, List.getElem_cons_succ, List.getElem_cons_zero, Act.put, List.setIfInBounds_toArray, List.set]
      refine wpAnyH_take (i := 1) (v := .int .i64 hn) rfl (by kernel_rfl) (by kernel_rfl) (by kernel_rfl) (fun _ _ _ h => h) (.inl ⟨by rfl, fun w' hw' => exec_load1 rfl rfl (fun w => by kernel_rfl) (Lin.cell (k := 1) hw' rfl)⟩) lE ?_
      simp only [List.getElem_toArray, List.getElem_cons_succ, List.getElem_cons_zero, Act.put, List.setIfInBounds_toArray, List.set]
      refine wpAnyH_take (i := 2) (v := .pointer (some ⟨B1, 0, none⟩)) rfl (by kernel_rfl) (by kernel_rfl) (by kernel_rfl) (fun _ _ _ h => h) (Yields.yieldsIf (.inl ⟨by rfl, fun w => by rfl⟩)) lE ?_
      simp only [List.getElem_toArray, List.getElem_cons_succ, List.getElem_cons_zero, Act.put, List.setIfInBounds_toArray, List.set]
      refine wpAnyH_take (i := 3) (v := .int .i64 wn) rfl (by kernel_rfl) (by kernel_rfl) (by kernel_rfl) (fun _ _ _ h => h) (.inl ⟨by rfl, fun w' hw' => exec_load1 rfl rfl (fun w => by kernel_rfl) (Lin.cell (k := 0) hw' rfl)⟩) lE ?_
      simp only [List.getElem_toArray, List.getElem_cons_succ, List.getElem_cons_zero, Act.put, List.setIfInBounds_toArray, List.set]
      refine wpAnyH_take (i := 4) (v := .pointer (some ⟨C, 0, none⟩)) rfl (by kernel_rfl) (by kernel_rfl) (by kernel_rfl) (fun _ _ _ h => h) (Yields.yieldsIf (.inl ⟨by rfl, fun w => by rfl⟩)) lE ?_
      simp only [List.getElem_toArray, List.getElem_cons_succ, List.getElem_cons_zero, Act.put, List.setIfInBounds_toArray, List.set]
      have t0 := k1.cell (k := 0) rfl
      have t1 := k1.cell (k := 1) rfl
      have f0 := k1.frozen 0
      have f1 := k1.frozen 1
      have tl := k1.lt
      have HE3 := Lib.hid (lE.other (b := C) (k := 0) hBC (.int .i64 hn))
      have HE4 := Lib.hid (HE3.out.other (b := C) (k := 1) hBC (.int .i64 wn))
      have HC3 := Lib.hid (k1.set 0 (.int .i64 hn))
      have HC4 := Lib.hid (HC3.out.set 1 (.int .i64 wn))
      have HB4 := Lib.hid ((V9.le.setCell (p := ⟨C, 0, none⟩) hCY (.int .i64 hn)).setCell (p := ⟨C, 1, none⟩) hCY (.int .i64 wn))
      clear lE k1
      refine wpAnyH_all (rs := [5]) (by kernel_rfl) (by simp) (fun i hi => ?_)
      obtain rfl : i = 5 := by simpa using hi
      clear hi
      refine wpOp_some rfl (by rfl) (fun K hK => ?_)
      simp only [List.getElem_toArray, List.getElem_cons_succ, List.getElem_cons_zero]
      go_wp2_with fail
      refine ⟨HE3.out, ?_⟩
      refine wpAnyH_take (i := 6) (v := .pointer (some ⟨C, 1, none⟩)) rfl (by kernel_rfl) (by kernel_rfl) (by kernel_rfl) (fun _ _ _ h => h) (Yields.yieldsIf (.inl ⟨by rfl, fun w => by rfl⟩)) HE3.out ?_
      simp only [List.getElem_toArray, List.getElem_cons_succ, List.getElem_cons_zero, Act.put, List.setIfInBounds_toArray, List.set]
      clear t0 t1 f0 f1 tl
      have k2 := HC3.out
      have t1 := k2.cell (k := 1) rfl
      have f1 := k2.frozen 1
      have tl := k2.lt
      refine wpAnyH_all (rs := [7]) (by kernel_rfl) (by simp) (fun i hi => ?_)
      obtain rfl : i = 7 := by simpa using hi
      clear hi
      refine wpOp_some rfl (by rfl) (fun K hK => ?_)
      simp only [List.getElem_toArray, List.getElem_cons_succ, List.getElem_cons_zero]
      go_wp2_with fail
      refine ⟨HE4.out, ?_⟩
      clear t1 f1 tl k2
      refine wpAnyH_done (by kernel_rfl) ?_ _
      obtain ⟨V1, hV1⟩ : ∃ V : Later Y3.w, V.w = (V9.w.setCell ⟨C, 0, none⟩ (.int .i64 hn)).setCell ⟨C, 1, none⟩ (.int .i64 wn) := ⟨⟨_, HB4.out⟩, rfl⟩
      have lC : Lin V1.w C 24 [.int .i64 hn, .int .i64 wn, .slice none 0 0] := by rw [hV1]; exact HC4.out
      rw [← hV1]
      clear hV1 HE3 HE4 HC3 HC4 HB4
      have F0 : Fld Y3.w V1.w C 2 24 [.int .i64 hn, .int .i64 wn, .slice none 0 0] (.slice none 0 0) (turnL 0 (turnS wn hn c r true) d) := ⟨V1.le, lC, rfl, IntsN.nil _ _, by simp [Value.ownBlock], hCY⟩
      clear lC
      have HNX : Hid (n1 = wn * hn) := HN1.out.trans HL.out
      have HS : Hid (Sym wn hn hn wn (turnS wn hn c r true) (turnT wn hn c r true)) := Lib.hid (turn_sym hs c r true)
      have HSQ : Hid (sized hn wn) := ⟨hs.2.2.1, hs.2.2.2, hs.1, hs.2.1⟩
      obtain ⟨hw1, hw6, hh1, hh6⟩ := hs
      have HSZ : Hid (sized wn hn) := ⟨hw1, hw6, hh1, hh6⟩
      obtain ⟨bd, od, kd, e, hkd, hbd, hgd⟩ := (S.at (v := .slice a1 n1 c1) (xs := d) (by simp)).at (k := 0) (by rw [HL.out]; exact h1w)
      injection e with e1 e2 e3
      subst e1 e3
      have HGD := Lib.hid hgd
      clear e2 hgd
      go_wp2
      go_loopw [10, 11] (fun l i wr => ∃ (k : Nat) (V : Later Y3.w) (vq : Value), wr = V.w ∧ i = .int .i64 k ∧ k ≤ wn * hn ∧ IntsM Y3.w.heap.size V.w l (fromL wn hn c r true k) ∧ Fld Y3.w V.w C 2 24 [.int .i64 hn, .int .i64 wn, vq] vq (turnL k (turnS wn hn c r true) d)) (fun _ i _ => wn * hn - (intOf i).toNat)
      case atStart => exact ⟨0, V1, _, rfl, rfl, Nat.zero_le _, IntsM.nil _ _, F0⟩
      case round =>
        obtain ⟨k, V, vq, rfl, rfl, hk, hM, hF⟩ := hrel
        clear F0
        obtain ⟨afr, nfr, cfr, rfl⟩ := hM.form'
        have v0 := (l1.later V).cell (k := 0) rfl
        have v1 := (l1.later V).cell (k := 1) rfl
        have v2 := (l1.later V).cell (k := 2) rfl
        have vl := (l1.later V).lt
        have u0 := hF.lin.cell (k := 0) rfl
        have u1 := hF.lin.cell (k := 1) rfl
        have u2 := hF.lin.cell (k := 2) rfl
        have ul := hF.lin.lt
        by_cases hlt : k < wn * hn
        rotate_left
        · obtain rfl : k = wn * hn := by omega
          have lC := hF.lin
          obtain ⟨aQ, nQ, cQ, rfl⟩ := hF.own.form'
          have hQ := hF.own.ints (by rw [turnL_len]; omega)
          have hI := hM.ints (by rw [fromL_len]; omega)
          have hnf : Hid (nfr = wn * hn) := by obtain ⟨a9, c9, e9⟩ := hM.form; cases e9; exact fromL_len _ _ _ _ _ _
          clear v0 v1 v2 vl u0 u1 u2 ul hlt hF hM hk
          replace l1 := l1.later V
          replace S := (S.later V).cons hQ
          clear hQ
          obtain ⟨Y24, hZ⟩ : ∃ Z : Later Y3.w, Z.w = V.w := ⟨V, rfl⟩
          rw [← hZ] at S l1 lC hI ⊢
          clear hZ
          have hqz : ∀ j, j < wn * hn → ofL (turnL (wn * hn) (turnS wn hn c r true) d) j = ofL d ((turnS wn hn c r true) j) := fun j hj => ofL_turnL _ _ hj
          have hNN : hn * wn = wn * hn := Nat.mul_comm _ _
          have hqv : vplate hn wn (turnL (wn * hn) (turnS wn hn c r true) d) = 0 := vplate_of HSQ.out (by rw [turnL_len, hNN]) fun j hj => by
            rw [hNN] at hj
            rw [hqz j hj]
            exact HLO.out _ (HS.out.ls j hj)
          obtain ⟨X2, U2, hm2⟩ := ham_ex HSQ.out (valid_low hqv).2.1 (valid_low hqv).2.2.2
          have hmap := HS.out.ham hqz HM.out hm2
          have vx := HM.out.vp HSZ.out HLW.out
          have vy := hm2.vp HSQ.out (valid_low hqv).2.2.2
          have E1 := Lib.hid (burnE_flat vx HM.out.flat)
          have E2 := Lib.hid (burnE_flat vy hm2.flat)
          obtain ⟨ba, hba⟩ : ∃ b, backB wn hn X = b := ⟨_, rfl⟩
          have hbb : backB hn wn X2 = ba := by
            rw [← hba, Bool.eq_iff_iff, back_iff HSQ.out vy hm2.flat, back_iff HSZ.out vx HM.out.flat]
            exact (HS.out.recI fun j hj => (hmap j hj).2).symm
          have HVQ := Lib.hid hqv
          have HM2 := Lib.hid hm2
          have HMAP := Lib.hid hmap
          have HBA := Lib.hid hba
          have HBB := Lib.hid hbb
          clear hqv hm2 hmap hba hbb vx vy hqz
          clear hNN
          have hkn : ¬ wn * hn < n1 := by rw [HNX.out]; exact Nat.lt_irrefl _
          have q0_0 := l1.cell (k := 0) rfl
          have q0_1 := l1.cell (k := 1) rfl
          have q0_2 := l1.cell (k := 2) rfl
          have q0_l := l1.lt
          go_wp2_with fail
          clear q0_0 q0_1 q0_2 q0_l
          clear hkn
          refine (flat_calls wn hn _ d X U _ (S.at (v := .slice (some ⟨bd, od, none⟩) n1 c1) (xs := d) (by simp)) HV.out HM.out).mono ?_
          rintro e w' ⟨v, u, y, rfl, rfl, hR, hU⟩
          replace l1 := l1.later y
          replace lC := lC.later y
          replace hI := hI.later y
          replace S := S.later y
          obtain ⟨a25, n25, c25, rfl⟩ : ∃ a n c, v = .slice a n c := by obtain ⟨a, c, e⟩ := hR.form; exact ⟨a, _, c, e⟩
          replace S := S.cons hR
          obtain ⟨a26, n26, c26, rfl⟩ : ∃ a n c, u = .slice a n c := by obtain ⟨a, c, e⟩ := hU.form; exact ⟨a, _, c, e⟩
          replace S := S.cons hU
          obtain ⟨Y27, hZ⟩ : ∃ Z : Later Y3.w, Z.w = y.w := ⟨Y24.step (y), rfl⟩
          rw [← hZ] at S l1 lC hI ⊢
          clear hZ
          clear y hR hU
          have q0_0 := lC.cell (k := 0) rfl
          have q0_1 := lC.cell (k := 1) rfl
          have q0_2 := lC.cell (k := 2) rfl
          have q0_l := lC.lt
          go_wp2_with fail
          clear q0_0 q0_1 q0_2 q0_l
          obtain ⟨B28, hb⟩ : ∃ b, b = Y27.w.heap.size := ⟨_, rfl⟩
          have l28 : Lin (Y27.w.alloc (.cells #[.int .i64 wn, .int .i64 hn, .slice a25 n25 c25] 24)) B28 24 [.int .i64 wn, .int .i64 hn, .slice a25 n25 c25] := by rw [hb]; exact Lin.new _ _ [.int .i64 wn, .int .i64 hn, .slice a25 n25 c25]
          replace S := S.later (Later.new _ (.cells #[.int .i64 wn, .int .i64 hn, .slice a25 n25 c25] 24))
          rw [Later.new_w] at S
          replace l1 := l1.later (Later.new _ (.cells #[.int .i64 wn, .int .i64 hn, .slice a25 n25 c25] 24))
          rw [Later.new_w] at l1
          replace lC := lC.later (Later.new _ (.cells #[.int .i64 wn, .int .i64 hn, .slice a25 n25 c25] 24))
          rw [Later.new_w] at lC
          replace hI := hI.later (Later.new _ (.cells #[.int .i64 wn, .int .i64 hn, .slice a25 n25 c25] 24))
          rw [Later.new_w] at hI
          have hsz : (Y27.w.alloc (.cells #[.int .i64 wn, .int .i64 hn, .slice a25 n25 c25] 24)).heap.size = B28 + 1 := by rw [hb]; simp
          obtain ⟨Y29, hZ⟩ : ∃ Z : Later Y3.w, Z.w = Y27.w.alloc (.cells #[.int .i64 wn, .int .i64 hn, .slice a25 n25 c25] 24) := ⟨Y27.step (Later.new _ _), rfl⟩
          rw [← hZ] at S hsz l1 lC hI l28 ⊢
          clear hZ
          rw [← hb]
          clear hb
          clear hsz
          refine (flat_calls hn wn _ (turnL (wn * hn) (turnS wn hn c r true) d) X2 U2 _ (S.at (v := .slice aQ nQ cQ) (xs := (turnL (wn * hn) (turnS wn hn c r true) d)) (by simp)) HVQ.out HM2.out).mono ?_
          rintro e w' ⟨v, u, y, rfl, rfl, hR, hU⟩
          replace l1 := l1.later y
          replace lC := lC.later y
          replace hI := hI.later y
          replace l28 := l28.later y
          replace S := S.later y
          obtain ⟨a30, n30, c30, rfl⟩ : ∃ a n c, v = .slice a n c := by obtain ⟨a, c, e⟩ := hR.form; exact ⟨a, _, c, e⟩
          replace S := S.cons hR
          obtain ⟨a31, n31, c31, rfl⟩ : ∃ a n c, u = .slice a n c := by obtain ⟨a, c, e⟩ := hU.form; exact ⟨a, _, c, e⟩
          replace S := S.cons hU
          obtain ⟨Y32, hZ⟩ : ∃ Z : Later Y3.w, Z.w = y.w := ⟨Y29.step (y), rfl⟩
          rw [← hZ] at S l1 lC hI l28 ⊢
          clear hZ
          clear y hR hU
          have q0_0 := l28.cell (k := 0) rfl
          have q0_1 := l28.cell (k := 1) rfl
          have q0_2 := l28.cell (k := 2) rfl
          have q0_l := l28.lt
          go_wp2_with fail
          clear q0_0 q0_1 q0_2 q0_l
          obtain ⟨B33, hb⟩ : ∃ b, b = Y32.w.heap.size := ⟨_, rfl⟩
          have l33 : Lin (Y32.w.alloc (.cells #[.int .i64 hn, .int .i64 wn, .slice a30 n30 c30] 24)) B33 24 [.int .i64 hn, .int .i64 wn, .slice a30 n30 c30] := by rw [hb]; exact Lin.new _ _ [.int .i64 hn, .int .i64 wn, .slice a30 n30 c30]
          replace S := S.later (Later.new _ (.cells #[.int .i64 hn, .int .i64 wn, .slice a30 n30 c30] 24))
          rw [Later.new_w] at S
          replace l1 := l1.later (Later.new _ (.cells #[.int .i64 hn, .int .i64 wn, .slice a30 n30 c30] 24))
          rw [Later.new_w] at l1
          replace lC := lC.later (Later.new _ (.cells #[.int .i64 hn, .int .i64 wn, .slice a30 n30 c30] 24))
          rw [Later.new_w] at lC
          replace hI := hI.later (Later.new _ (.cells #[.int .i64 hn, .int .i64 wn, .slice a30 n30 c30] 24))
          rw [Later.new_w] at hI
          replace l28 := l28.later (Later.new _ (.cells #[.int .i64 hn, .int .i64 wn, .slice a30 n30 c30] 24))
          rw [Later.new_w] at l28
          have hsz : (Y32.w.alloc (.cells #[.int .i64 hn, .int .i64 wn, .slice a30 n30 c30] 24)).heap.size = B33 + 1 := by rw [hb]; simp
          obtain ⟨Y34, hZ⟩ : ∃ Z : Later Y3.w, Z.w = Y32.w.alloc (.cells #[.int .i64 hn, .int .i64 wn, .slice a30 n30 c30] 24) := ⟨Y32.step (Later.new _ _), rfl⟩
          rw [← hZ] at S hsz l1 lC hI l28 l33 ⊢
          clear hZ
          rw [← hb]
          clear hb
          clear hsz
          obtain ⟨bp, op, kp, e, hkp, hbp, hgp⟩ := (S.at (v := .slice a25 n25 c25) (xs := X) (by simp)).at (k := 0) (by rw [HM.out.lenX]; exact h1w)
          injection e with e1 e2 e3
          subst e1 e3
          have HNp := Lib.hid e2
          have HGp := Lib.hid hgp
          clear e2 hgp
          obtain ⟨bq, oq, kq, e, hkq, hbq, hgq⟩ := (S.at (v := .slice a30 n30 c30) (xs := X2) (by simp)).at (k := 0) (by rw [HM2.out.lenX, Nat.mul_comm hn wn]; exact h1w)
          injection e with e1 e2 e3
          subst e1 e3
          have HNq := Lib.hid e2
          have HGq := Lib.hid hgq
          clear e2 hgq
          obtain ⟨bu, ou, ku, e, hku, hbu, hgu⟩ := (S.at (v := .slice a26 n26 c26) (xs := U) (by simp)).at (k := 0) (by rw [HM.out.lenU]; exact h1w)
          injection e with e1 e2 e3
          subst e1 e3
          have HNu := Lib.hid e2
          have HGu := Lib.hid hgu
          clear e2 hgu
          obtain ⟨bw, ow, kw, e, hkw, hbw, hgw⟩ := (S.at (v := .slice a31 n31 c31) (xs := U2) (by simp)).at (k := 0) (by rw [HM2.out.lenU, Nat.mul_comm hn wn]; exact h1w)
          injection e with e1 e2 e3
          subst e1 e3
          have HNw := Lib.hid e2
          have HGw := Lib.hid hgw
          clear e2 hgw
          have HL1 := Lib.hid (HNp.out.trans HM.out.lenX)
          have HL2 := Lib.hid (show _ = wn * hn from (HNq.out.trans HM2.out.lenX).trans (Nat.mul_comm hn wn))
          have HL3 := Lib.hid (HNu.out.trans HM.out.lenU)
          have HL4 := Lib.hid (show _ = wn * hn from (HNw.out.trans HM2.out.lenU).trans (Nat.mul_comm hn wn))
          obtain ⟨bf, of', kf, e, hkf, hbf, hgf⟩ := hI.at (k := 0) (by rw [fromL_len]; exact h1w)
          injection e with e1 e2 e3
          subst e1 e3
          have HGF := Lib.hid hgf
          clear e2 hgf
          have q0_0 := l28.cell (k := 0) rfl
          have q0_1 := l28.cell (k := 1) rfl
          have q0_2 := l28.cell (k := 2) rfl
          have q0_l := l28.lt
          have q1_0 := l33.cell (k := 0) rfl
          have q1_1 := l33.cell (k := 1) rfl
          have q1_2 := l33.cell (k := 2) rfl
          have q1_l := l33.lt
          go_wp2
          go_loopw [20] (fun c wr => ∃ (k : Nat) (V : Later Y34.w), wr = V.w ∧ k ≤ wn * hn ∧ c = .int .i64 k) (fun c _ => wn * hn - (intOf c).toNat)
          case atStart => exact ⟨0, Later.self _, rfl, Nat.zero_le _, rfl⟩
          case round =>
            obtain ⟨k, V, rfl, hk, rfl⟩ := hrel
            by_cases hlt : k < wn * hn
            · obtain ⟨m, hm⟩ : ∃ m, (turnS wn hn c r true) k = m := ⟨_, rfl⟩
              have hmN := HS.out.ls k hlt
              have hmap := HMAP.out k hlt
              have gf := (V.cell hbf).trans (HGF.out k (by rw [fromL_len]; exact hlt))
              rw [fromL_at _ _ _ _ _ hlt, hm] at gf
              rw [hm] at hmN hmap
              have gp := (V.cell hbp).trans (HGp.out m (by rw [HM.out.lenX]; exact hmN))
              have gq := (V.cell hbq).trans (HGq.out k (by rw [HM2.out.lenX, Nat.mul_comm hn wn]; exact hlt))
              have gu := (V.cell hbu).trans (HGu.out m (by rw [HM.out.lenU]; exact hmN))
              have gw := (V.cell hbw).trans (HGw.out k (by rw [HM2.out.lenU, Nat.mul_comm hn wn]; exact hlt))
              rw [nth_ofL] at gp gq gu gw
              rw [hmap.2] at gq
              rw [hmap.1] at gw
              have lp := Nat.lt_of_lt_of_le hbp V.size
              have lq := Nat.lt_of_lt_of_le hbq V.size
              have lu := Nat.lt_of_lt_of_le hbu V.size
              have lw := Nat.lt_of_lt_of_le hbw V.size
              have lf := Nat.lt_of_lt_of_le hbf V.size
              have j1 : m < n25 := by rw [HL1.out]; exact hmN
              have j2 : k < n30 := by rw [HL2.out]; exact hlt
              have j3 : m < n26 := by rw [HL3.out]; exact hmN
              have j4 : k < n31 := by rw [HL4.out]; exact hlt
              have j5 : k < nfr := by rw [hnf.out]; exact hlt
              have c0 := (V.cell q0_l).trans q0_2
              have c1 := (V.cell q1_l).trans q1_2
              have cl := Nat.lt_of_lt_of_le q0_l V.size
              have dl := Nat.lt_of_lt_of_le q1_l V.size
              clear hm hmap
              go_wp2
              refine Mix.region_mixL (Mix.kinds [] [] []) (by kernel_rfl) (by kernel_rfl) ?_
              repeat ((with_reducible refine Mix.atCons ?_); first | refine Mix.skipU (by rfl) rfl (by rfl) ?_ | (refine Mix.val rfl rfl (by rfl) (fun K hK => ?_); go_big_quiet_op; refine hK _ ?_; clear hK K) | (refine Mix.skip (by rfl) ?_; go_frame))
              refine Mix.done (fun z3 => ?_)
              go_wp2
              go_roundw
              case rel => exact ⟨k + 1, V.step z3, rfl, by omega, by go_num⟩
              case measure => simp [intOf]; omega
            · have hku : ¬ k < nfr := by rw [hnf.out]; exact hlt
              clear q0_0 q0_1 q0_2 q0_l q1_0 q1_1 q1_2 q1_l
              replace l1 := l1.later V
              replace lC := lC.later V
              replace hI := hI.later V
              replace l28 := l28.later V
              replace l33 := l33.later V
              replace S := S.later V
              obtain ⟨Y35, hZ⟩ : ∃ Z : Later Y3.w, Z.w = V.w := ⟨Y34.step (V), rfl⟩
              rw [← hZ] at S l1 lC hI l28 l33 ⊢
              clear hZ
              have q0_0 := l28.cell (k := 0) rfl
              have q0_1 := l28.cell (k := 1) rfl
              have q0_2 := l28.cell (k := 2) rfl
              have q0_l := l28.lt
              go_wp2_with fail
              clear q0_0 q0_1 q0_2 q0_l
              refine (Back_calls wn hn _ X _ (S.at (v := .slice (some ⟨bp, op, none⟩) n25 c25) (xs := X) (by simp))).mono ?_
              rintro e w' ⟨rfl, y, rfl⟩
              rw [HBA.out, E1.out]
              replace l1 := l1.later y
              replace lC := lC.later y
              replace hI := hI.later y
              replace l28 := l28.later y
              replace l33 := l33.later y
              replace S := S.later y
              obtain ⟨Y36, hZ⟩ : ∃ Z : Later Y3.w, Z.w = y.w := ⟨Y35.step (y), rfl⟩
              rw [← hZ] at S l1 lC hI l28 l33 ⊢
              clear hZ
              clear y
              have q0_0 := l33.cell (k := 0) rfl
              have q0_1 := l33.cell (k := 1) rfl
              have q0_2 := l33.cell (k := 2) rfl
              have q0_l := l33.lt
              go_wp2_with fail
              clear q0_0 q0_1 q0_2 q0_l
              refine (Back_calls hn wn _ X2 _ (S.at (v := .slice (some ⟨bq, oq, none⟩) n30 c30) (xs := X2) (by simp))).mono ?_
              rintro e w' ⟨rfl, y, rfl⟩
              rw [HBB.out, E2.out]
              replace l1 := l1.later y
              replace lC := lC.later y
              replace hI := hI.later y
              replace l28 := l28.later y
              replace l33 := l33.later y
              replace S := S.later y
              obtain ⟨Y37, hZ⟩ : ∃ Z : Later Y3.w, Z.w = y.w := ⟨Y36.step (y), rfl⟩
              rw [← hZ] at S l1 lC hI l28 l33 ⊢
              clear hZ
              clear y
              cases ba
              all_goals
                go_wp2_with fail
                refine (Works_calls _).mono ?_
                rintro e w' ⟨rfl, y, rfl⟩
                go_wp2
                go_ret
                exact ⟨rfl, Y3.step (Y37.step y), rfl⟩
        have hkn : k < n1 := by rw [HNX.out]; exact hlt
        obtain ⟨a, ha⟩ : ∃ a, k % hn = a := ⟨_, rfl⟩
        obtain ⟨b, hb⟩ : ∃ b, k / hn = b := ⟨_, rfl⟩
        have ea : (k : Int) % (hn : Int) = (a : Int) := by rw [← ha]; exact (Int.natCast_emod _ _).symm
        have eb : (k : Int) / (hn : Int) = (b : Int) := by rw [← hb]; exact (Int.natCast_ediv _ _).symm
        have hal : a < hn := by rw [← ha]; exact Nat.mod_lt _ (by omega)
        have hbl : b < wn := by rw [← hb]; exact Nat.div_lt_of_lt_mul (by rw [Nat.mul_comm]; exact hlt)
        have hq0 : (hn : Int) ≠ 0 := by omega
        have hSk : turnS wn hn c r true k = (bif r then hn - 1 - a else a) * wn + (bif c then wn - 1 - b else b) := by rw [turnS, ha, hb]; rfl
        have hSl := HS.out.ls k hlt
        rw [hSk] at hSl
        clear ha hb
        go_wp2
        refine Mix.region_mixL (Mix.kinds [] [] []) (by kernel_rfl) (by kernel_rfl) ?_
        repeat ((with_reducible refine Mix.atCons ?_); first | refine Mix.skipU (by rfl) rfl (by rfl) ?_ | (refine Mix.val rfl rfl (by rfl) (fun K hK => ?_); go_big_quiet_op; refine hK _ ?_; clear hK K) | (refine Mix.skip (by rfl) ?_; go_frame))
        refine Mix.done (fun z3 => ?_)
        have hM2 := hM.later z3
        have hF2 := hF.later z3
        obtain ⟨V2, hV2⟩ : ∃ V2 : Later Y3.w, V2.w = z3.w := ⟨V.step z3, rfl⟩
        rw [← hV2] at hM2 hF2 ⊢
        clear hV2 z3 hM hF v0 v1 v2 vl u0 u1 u2 ul V
        have v0 := (l1.later V2).cell (k := 0) rfl
        have v1 := (l1.later V2).cell (k := 1) rfl
        have v2 := (l1.later V2).cell (k := 2) rfl
        have vl := (l1.later V2).lt
        have hfl : ((fromL wn hn c r true k)).length + 1 ≤ 1000000000000 := by rw [fromL_len]; omega
        cases c
        all_goals cases r
        all_goals simp only [cond_true, cond_false] at hSk hSl
        · obtain ⟨x2, hx2⟩ : ∃ x2, b = x2 := ⟨_, rfl⟩
          obtain ⟨y2, hy2⟩ : ∃ y2, a = y2 := ⟨_, rfl⟩
          rw [hx2, hy2] at hSk hSl
          subst hx2
          subst hy2
          obtain ⟨P, hP⟩ : ∃ P, a * wn = P := ⟨_, rfl⟩
          have eP : IntKind.i64.wrap ((a : Int) * (wn : Int)) = (P : Int) := by rw [← Int.natCast_mul, hP]; exact IntWalk.i64_in _ (by rw [hP] at hSl; omega)
          rw [hP] at hSk hSl
          clear hP
          obtain ⟨K, hK⟩ : ∃ K, P + b = K := ⟨_, rfl⟩
          have eK : (P : Int) + (b : Int) = (K : Int) := by omega
          rw [hK] at hSk hSl
          have hPK : P ≤ K := by omega
          clear hK
          obtain ⟨vf2, q1, hrun, hM3, hgr⟩ := app_int_stepM V2.le hM2 (K : Int) hfl 38
          obtain ⟨af2, nf2, cf2, rfl⟩ := hM3.form'
          have HRF := Lib.hid hrun
          have hF3 := hF2.kept hgr q1.le (hM2.ne_plate hF2.lin).symm (hM2.ne_N hF2.own)
          have HF3 := Lib.hid hF3
          have HM3 := Lib.hid hM3
          have HSK := Lib.hid hSk
          have gd := q1.cell (o := od + K) hbd
          rw [HGD.out K (by rw [HL.out]; exact hSl), nth_ofL] at gd
          have ld := Nat.lt_of_lt_of_le hbd q1.size
          have hKn : K < n1 := by rw [HNX.out]; exact hSl
          obtain ⟨aq, nq, cq, rfl⟩ := hF3.own.form'
          clear hrun hgr hM3 hF3 hM2 hF2 hSk
          go_wp2_with ((with_reducible show wpList _ _ _ (⟨some 79, _, _, _, _, _⟩ :: _) _ _); refine Lib.wpList_append_run_sl _ rfl _ _ 38 rfl _ _ rfl rfl HRF.out ?_)
          refine Mix.region_mixL (Mix.kinds [12] [] [13, 14, 15]) (by kernel_rfl) (by kernel_rfl) ?_
          have HF3' := HF3.out
          have v0 := (l1.later q1).cell (k := 0) rfl
          have v1 := (l1.later q1).cell (k := 1) rfl
          have v2 := (l1.later q1).cell (k := 2) rfl
          have vl := (l1.later q1).lt
          have u2 := HF3'.lin.cell (k := 2) rfl
          have ul := HF3'.lin.lt
          repeat ((with_reducible refine Mix.atCons ?_); first | refine Mix.skipU (by rfl) rfl (by rfl) ?_ | (refine Mix.val rfl rfl (by rfl) (fun K hK => ?_); go_big_quiet_op; refine hK _ ?_; clear hK K) | (refine Mix.skip (by rfl) ?_; go_frame))
          refine Mix.new rfl (by rfl) (fun b => .slice (some ⟨b, 0, none⟩) 1 1) (.cells #[.int .i64 (ofL d K)] 2) (fun w => by simp [go_sem]) (fun E x2 hE hxE => ?_)
          refine Mix.lastR rfl (by rfl) (by decide) (fun x3 K3 hK3 => ?_)
          have hF4 := (HF3'.later x2).later x3
          have hM4 := (HM3.out.later x2).later x3
          have hcE : x3.w.cell? ⟨E, 0, none⟩ = some (.int .i64 (ofL d K)) := by
            have h1 := (x3.le.block E (Array.getElem?_eq_some_iff.1 hxE).1).trans hxE
            simp [World.cell?, h1]
          obtain ⟨v4, q4, hrun4, hL4, hO4, hn4, hg4⟩ := hF4.appAt E 1 (ofL d K) hcE (by rw [turnL_len]; omega) 22
          obtain ⟨a4, n4, c4, rfl⟩ := hO4.form'
          have hM5 := hM4.kept hg4 (IntsN.ne_M hM4 hF4.own)
          refine Lib.wp_append_run_sl _ _ _ 22 rfl _ _ rfl rfl hrun4 ?_
          refine hK3 _ _ ?_
          clear hK3 hrun4 hg4 hM4 hF4 hcE hxE hE HF3'
          refine Mix.lastR rfl (by rfl) (by decide) (fun x4 K4 hK4 => ?_)
          go_wp2_with fail
          refine Mix.last rfl (by rfl) (fun x5 K5 hK5 => ?_)
          have hL4' := hL4.later x4
          have hO4' := hO4.later x4
          have hM5' := hM5.later x4
          have hB4' := q4.le.trans (x4.le.mono q4.le.size)
          have hL5 := hL4'.later x5
          clear u2 ul
          have u2 := hL5.cell (k := 2) rfl
          have uf := hL5.frozen 2
          have ul := hL5.lt
          have hM6 := hM5'.later x5
          have HM6 := Lib.hid (hM6.kept (grownBy_setCell_at x5.w C 2 (.slice a4 n4 c4)) (.inr (hM6.ne_plate hL5)))
          have HF6 := Lib.hid (Fld.stored (k := 2) (hB4'.trans (x5.le.mono hB4'.size)) hL5 (by simp) (hO4'.later x5) hn4 hCY)
          clear hL5 hM6 hL4 hM5 hO4 hn4 hL4' hO4' hM5' hB4'
          go_wp2_with fail
          refine Mix.done (fun x6 => ?_)
          have HF7 := Lib.hid (HF6.out.later x6)
          have HM7 := Lib.hid (HM6.out.later x6)
          rw [← HSK.out] at HF7 HM7
          clear HF6 HM6 u2 uf ul v0 v1 v2 vl
          go_wp2
          go_roundw
          case rel => exact ⟨k + 1, ⟨x6.w, HF7.out.le⟩, _, rfl, by go_num, by omega, by rw [fromL_snoc]; exact HM7.out, by rw [turnL_snoc]; exact HF7.out⟩
          case measure => simp [intOf]; omega
        · obtain ⟨x2, hx2⟩ : ∃ x2, b = x2 := ⟨_, rfl⟩
          obtain ⟨y2, hy2⟩ : ∃ y2, hn - 1 - a = y2 := ⟨_, rfl⟩
          rw [hx2, hy2] at hSk hSl
          subst hx2
          have ey : (hn : Int) - 1 - (a : Int) = (y2 : Int) := by omega
          clear hy2
          obtain ⟨P, hP⟩ : ∃ P, y2 * wn = P := ⟨_, rfl⟩
          have eP : IntKind.i64.wrap ((y2 : Int) * (wn : Int)) = (P : Int) := by rw [← Int.natCast_mul, hP]; exact IntWalk.i64_in _ (by rw [hP] at hSl; omega)
          rw [hP] at hSk hSl
          clear hP
          obtain ⟨K, hK⟩ : ∃ K, P + b = K := ⟨_, rfl⟩
          have eK : (P : Int) + (b : Int) = (K : Int) := by omega
          rw [hK] at hSk hSl
          have hPK : P ≤ K := by omega
          clear hK
          obtain ⟨vf2, q1, hrun, hM3, hgr⟩ := app_int_stepM V2.le hM2 (K : Int) hfl 38
          obtain ⟨af2, nf2, cf2, rfl⟩ := hM3.form'
          have HRF := Lib.hid hrun
          have hF3 := hF2.kept hgr q1.le (hM2.ne_plate hF2.lin).symm (hM2.ne_N hF2.own)
          have HF3 := Lib.hid hF3
          have HM3 := Lib.hid hM3
          have HSK := Lib.hid hSk
          have gd := q1.cell (o := od + K) hbd
          rw [HGD.out K (by rw [HL.out]; exact hSl), nth_ofL] at gd
          have ld := Nat.lt_of_lt_of_le hbd q1.size
          have hKn : K < n1 := by rw [HNX.out]; exact hSl
          obtain ⟨aq, nq, cq, rfl⟩ := hF3.own.form'
          clear hrun hgr hM3 hF3 hM2 hF2 hSk
          go_wp2_with ((with_reducible show wpList _ _ _ (⟨some 79, _, _, _, _, _⟩ :: _) _ _); refine Lib.wpList_append_run_sl _ rfl _ _ 38 rfl _ _ rfl rfl HRF.out ?_)
          refine Mix.region_mixL (Mix.kinds [12] [] [13, 14, 15]) (by kernel_rfl) (by kernel_rfl) ?_
          have HF3' := HF3.out
          have v0 := (l1.later q1).cell (k := 0) rfl
          have v1 := (l1.later q1).cell (k := 1) rfl
          have v2 := (l1.later q1).cell (k := 2) rfl
          have vl := (l1.later q1).lt
          have u2 := HF3'.lin.cell (k := 2) rfl
          have ul := HF3'.lin.lt
          repeat ((with_reducible refine Mix.atCons ?_); first | refine Mix.skipU (by rfl) rfl (by rfl) ?_ | (refine Mix.val rfl rfl (by rfl) (fun K hK => ?_); go_big_quiet_op; refine hK _ ?_; clear hK K) | (refine Mix.skip (by rfl) ?_; go_frame))
          refine Mix.new rfl (by rfl) (fun b => .slice (some ⟨b, 0, none⟩) 1 1) (.cells #[.int .i64 (ofL d K)] 2) (fun w => by simp [go_sem]) (fun E x2 hE hxE => ?_)
          refine Mix.lastR rfl (by rfl) (by decide) (fun x3 K3 hK3 => ?_)
          have hF4 := (HF3'.later x2).later x3
          have hM4 := (HM3.out.later x2).later x3
          have hcE : x3.w.cell? ⟨E, 0, none⟩ = some (.int .i64 (ofL d K)) := by
            have h1 := (x3.le.block E (Array.getElem?_eq_some_iff.1 hxE).1).trans hxE
            simp [World.cell?, h1]
          obtain ⟨v4, q4, hrun4, hL4, hO4, hn4, hg4⟩ := hF4.appAt E 1 (ofL d K) hcE (by rw [turnL_len]; omega) 22
          obtain ⟨a4, n4, c4, rfl⟩ := hO4.form'
          have hM5 := hM4.kept hg4 (IntsN.ne_M hM4 hF4.own)
          refine Lib.wp_append_run_sl _ _ _ 22 rfl _ _ rfl rfl hrun4 ?_
          refine hK3 _ _ ?_
          clear hK3 hrun4 hg4 hM4 hF4 hcE hxE hE HF3'
          refine Mix.lastR rfl (by rfl) (by decide) (fun x4 K4 hK4 => ?_)
          go_wp2_with fail
          refine Mix.last rfl (by rfl) (fun x5 K5 hK5 => ?_)
          have hL4' := hL4.later x4
          have hO4' := hO4.later x4
          have hM5' := hM5.later x4
          have hB4' := q4.le.trans (x4.le.mono q4.le.size)
          have hL5 := hL4'.later x5
          clear u2 ul
          have u2 := hL5.cell (k := 2) rfl
          have uf := hL5.frozen 2
          have ul := hL5.lt
          have hM6 := hM5'.later x5
          have HM6 := Lib.hid (hM6.kept (grownBy_setCell_at x5.w C 2 (.slice a4 n4 c4)) (.inr (hM6.ne_plate hL5)))
          have HF6 := Lib.hid (Fld.stored (k := 2) (hB4'.trans (x5.le.mono hB4'.size)) hL5 (by simp) (hO4'.later x5) hn4 hCY)
          clear hL5 hM6 hL4 hM5 hO4 hn4 hL4' hO4' hM5' hB4'
          go_wp2_with fail
          refine Mix.done (fun x6 => ?_)
          have HF7 := Lib.hid (HF6.out.later x6)
          have HM7 := Lib.hid (HM6.out.later x6)
          rw [← HSK.out] at HF7 HM7
          clear HF6 HM6 u2 uf ul v0 v1 v2 vl
          go_wp2
          go_roundw
          case rel => exact ⟨k + 1, ⟨x6.w, HF7.out.le⟩, _, rfl, by go_num, by omega, by rw [fromL_snoc]; exact HM7.out, by rw [turnL_snoc]; exact HF7.out⟩
          case measure => simp [intOf]; omega
        · obtain ⟨x2, hx2⟩ : ∃ x2, wn - 1 - b = x2 := ⟨_, rfl⟩
          obtain ⟨y2, hy2⟩ : ∃ y2, a = y2 := ⟨_, rfl⟩
          rw [hx2, hy2] at hSk hSl
          have ex : (wn : Int) - 1 - (b : Int) = (x2 : Int) := by omega
          subst hy2
          clear hx2
          obtain ⟨P, hP⟩ : ∃ P, a * wn = P := ⟨_, rfl⟩
          have eP : IntKind.i64.wrap ((a : Int) * (wn : Int)) = (P : Int) := by rw [← Int.natCast_mul, hP]; exact IntWalk.i64_in _ (by rw [hP] at hSl; omega)
          rw [hP] at hSk hSl
          clear hP
          obtain ⟨K, hK⟩ : ∃ K, P + x2 = K := ⟨_, rfl⟩
          have eK : (P : Int) + (x2 : Int) = (K : Int) := by omega
          rw [hK] at hSk hSl
          have hPK : P ≤ K := by omega
          clear hK
          obtain ⟨vf2, q1, hrun, hM3, hgr⟩ := app_int_stepM V2.le hM2 (K : Int) hfl 38
          obtain ⟨af2, nf2, cf2, rfl⟩ := hM3.form'
          have HRF := Lib.hid hrun
          have hF3 := hF2.kept hgr q1.le (hM2.ne_plate hF2.lin).symm (hM2.ne_N hF2.own)
          have HF3 := Lib.hid hF3
          have HM3 := Lib.hid hM3
          have HSK := Lib.hid hSk
          have gd := q1.cell (o := od + K) hbd
          rw [HGD.out K (by rw [HL.out]; exact hSl), nth_ofL] at gd
          have ld := Nat.lt_of_lt_of_le hbd q1.size
          have hKn : K < n1 := by rw [HNX.out]; exact hSl
          obtain ⟨aq, nq, cq, rfl⟩ := hF3.own.form'
          clear hrun hgr hM3 hF3 hM2 hF2 hSk
          go_wp2_with ((with_reducible show wpList _ _ _ (⟨some 79, _, _, _, _, _⟩ :: _) _ _); refine Lib.wpList_append_run_sl _ rfl _ _ 38 rfl _ _ rfl rfl HRF.out ?_)
          refine Mix.region_mixL (Mix.kinds [12] [] [13, 14, 15]) (by kernel_rfl) (by kernel_rfl) ?_
          have HF3' := HF3.out
          have v0 := (l1.later q1).cell (k := 0) rfl
          have v1 := (l1.later q1).cell (k := 1) rfl
          have v2 := (l1.later q1).cell (k := 2) rfl
          have vl := (l1.later q1).lt
          have u2 := HF3'.lin.cell (k := 2) rfl
          have ul := HF3'.lin.lt
          repeat ((with_reducible refine Mix.atCons ?_); first | refine Mix.skipU (by rfl) rfl (by rfl) ?_ | (refine Mix.val rfl rfl (by rfl) (fun K hK => ?_); go_big_quiet_op; refine hK _ ?_; clear hK K) | (refine Mix.skip (by rfl) ?_; go_frame))
          refine Mix.new rfl (by rfl) (fun b => .slice (some ⟨b, 0, none⟩) 1 1) (.cells #[.int .i64 (ofL d K)] 2) (fun w => by simp [go_sem]) (fun E x2 hE hxE => ?_)
          refine Mix.lastR rfl (by rfl) (by decide) (fun x3 K3 hK3 => ?_)
          have hF4 := (HF3'.later x2).later x3
          have hM4 := (HM3.out.later x2).later x3
          have hcE : x3.w.cell? ⟨E, 0, none⟩ = some (.int .i64 (ofL d K)) := by
            have h1 := (x3.le.block E (Array.getElem?_eq_some_iff.1 hxE).1).trans hxE
            simp [World.cell?, h1]
          obtain ⟨v4, q4, hrun4, hL4, hO4, hn4, hg4⟩ := hF4.appAt E 1 (ofL d K) hcE (by rw [turnL_len]; omega) 22
          obtain ⟨a4, n4, c4, rfl⟩ := hO4.form'
          have hM5 := hM4.kept hg4 (IntsN.ne_M hM4 hF4.own)
          refine Lib.wp_append_run_sl _ _ _ 22 rfl _ _ rfl rfl hrun4 ?_
          refine hK3 _ _ ?_
          clear hK3 hrun4 hg4 hM4 hF4 hcE hxE hE HF3'
          refine Mix.lastR rfl (by rfl) (by decide) (fun x4 K4 hK4 => ?_)
          go_wp2_with fail
          refine Mix.last rfl (by rfl) (fun x5 K5 hK5 => ?_)
          have hL4' := hL4.later x4
          have hO4' := hO4.later x4
          have hM5' := hM5.later x4
          have hB4' := q4.le.trans (x4.le.mono q4.le.size)
          have hL5 := hL4'.later x5
          clear u2 ul
          have u2 := hL5.cell (k := 2) rfl
          have uf := hL5.frozen 2
          have ul := hL5.lt
          have hM6 := hM5'.later x5
          have HM6 := Lib.hid (hM6.kept (grownBy_setCell_at x5.w C 2 (.slice a4 n4 c4)) (.inr (hM6.ne_plate hL5)))
          have HF6 := Lib.hid (Fld.stored (k := 2) (hB4'.trans (x5.le.mono hB4'.size)) hL5 (by simp) (hO4'.later x5) hn4 hCY)
          clear hL5 hM6 hL4 hM5 hO4 hn4 hL4' hO4' hM5' hB4'
          go_wp2_with fail
          refine Mix.done (fun x6 => ?_)
          have HF7 := Lib.hid (HF6.out.later x6)
          have HM7 := Lib.hid (HM6.out.later x6)
          rw [← HSK.out] at HF7 HM7
          clear HF6 HM6 u2 uf ul v0 v1 v2 vl
          go_wp2
          go_roundw
          case rel => exact ⟨k + 1, ⟨x6.w, HF7.out.le⟩, _, rfl, by go_num, by omega, by rw [fromL_snoc]; exact HM7.out, by rw [turnL_snoc]; exact HF7.out⟩
          case measure => simp [intOf]; omega
        · obtain ⟨x2, hx2⟩ : ∃ x2, wn - 1 - b = x2 := ⟨_, rfl⟩
          obtain ⟨y2, hy2⟩ : ∃ y2, hn - 1 - a = y2 := ⟨_, rfl⟩
          rw [hx2, hy2] at hSk hSl
          have ex : (wn : Int) - 1 - (b : Int) = (x2 : Int) := by omega
          have ey : (hn : Int) - 1 - (a : Int) = (y2 : Int) := by omega
          clear hx2
          clear hy2
          obtain ⟨P, hP⟩ : ∃ P, y2 * wn = P := ⟨_, rfl⟩
          have eP : IntKind.i64.wrap ((y2 : Int) * (wn : Int)) = (P : Int) := by rw [← Int.natCast_mul, hP]; exact IntWalk.i64_in _ (by rw [hP] at hSl; omega)
          rw [hP] at hSk hSl
          clear hP
          obtain ⟨K, hK⟩ : ∃ K, P + x2 = K := ⟨_, rfl⟩
          have eK : (P : Int) + (x2 : Int) = (K : Int) := by omega
          rw [hK] at hSk hSl
          have hPK : P ≤ K := by omega
          clear hK
          obtain ⟨vf2, q1, hrun, hM3, hgr⟩ := app_int_stepM V2.le hM2 (K : Int) hfl 38
          obtain ⟨af2, nf2, cf2, rfl⟩ := hM3.form'
          have HRF := Lib.hid hrun
          have hF3 := hF2.kept hgr q1.le (hM2.ne_plate hF2.lin).symm (hM2.ne_N hF2.own)
          have HF3 := Lib.hid hF3
          have HM3 := Lib.hid hM3
          have HSK := Lib.hid hSk
          have gd := q1.cell (o := od + K) hbd
          rw [HGD.out K (by rw [HL.out]; exact hSl), nth_ofL] at gd
          have ld := Nat.lt_of_lt_of_le hbd q1.size
          have hKn : K < n1 := by rw [HNX.out]; exact hSl
          obtain ⟨aq, nq, cq, rfl⟩ := hF3.own.form'
          clear hrun hgr hM3 hF3 hM2 hF2 hSk
          go_wp2_with ((with_reducible show wpList _ _ _ (⟨some 79, _, _, _, _, _⟩ :: _) _ _); refine Lib.wpList_append_run_sl _ rfl _ _ 38 rfl _ _ rfl rfl HRF.out ?_)
          refine Mix.region_mixL (Mix.kinds [12] [] [13, 14, 15]) (by kernel_rfl) (by kernel_rfl) ?_
          have HF3' := HF3.out
          have v0 := (l1.later q1).cell (k := 0) rfl
          have v1 := (l1.later q1).cell (k := 1) rfl
          have v2 := (l1.later q1).cell (k := 2) rfl
          have vl := (l1.later q1).lt
          have u2 := HF3'.lin.cell (k := 2) rfl
          have ul := HF3'.lin.lt
          repeat ((with_reducible refine Mix.atCons ?_); first | refine Mix.skipU (by rfl) rfl (by rfl) ?_ | (refine Mix.val rfl rfl (by rfl) (fun K hK => ?_); go_big_quiet_op; refine hK _ ?_; clear hK K) | (refine Mix.skip (by rfl) ?_; go_frame))
          refine Mix.new rfl (by rfl) (fun b => .slice (some ⟨b, 0, none⟩) 1 1) (.cells #[.int .i64 (ofL d K)] 2) (fun w => by simp [go_sem]) (fun E x2 hE hxE => ?_)
          refine Mix.lastR rfl (by rfl) (by decide) (fun x3 K3 hK3 => ?_)
          have hF4 := (HF3'.later x2).later x3
          have hM4 := (HM3.out.later x2).later x3
          have hcE : x3.w.cell? ⟨E, 0, none⟩ = some (.int .i64 (ofL d K)) := by
            have h1 := (x3.le.block E (Array.getElem?_eq_some_iff.1 hxE).1).trans hxE
            simp [World.cell?, h1]
          obtain ⟨v4, q4, hrun4, hL4, hO4, hn4, hg4⟩ := hF4.appAt E 1 (ofL d K) hcE (by rw [turnL_len]; omega) 22
          obtain ⟨a4, n4, c4, rfl⟩ := hO4.form'
          have hM5 := hM4.kept hg4 (IntsN.ne_M hM4 hF4.own)
          refine Lib.wp_append_run_sl _ _ _ 22 rfl _ _ rfl rfl hrun4 ?_
          refine hK3 _ _ ?_
          clear hK3 hrun4 hg4 hM4 hF4 hcE hxE hE HF3'
          refine Mix.lastR rfl (by rfl) (by decide) (fun x4 K4 hK4 => ?_)
          go_wp2_with fail
          refine Mix.last rfl (by rfl) (fun x5 K5 hK5 => ?_)
          have hL4' := hL4.later x4
          have hO4' := hO4.later x4
          have hM5' := hM5.later x4
          have hB4' := q4.le.trans (x4.le.mono q4.le.size)
          have hL5 := hL4'.later x5
          clear u2 ul
          have u2 := hL5.cell (k := 2) rfl
          have uf := hL5.frozen 2
          have ul := hL5.lt
          have hM6 := hM5'.later x5
          have HM6 := Lib.hid (hM6.kept (grownBy_setCell_at x5.w C 2 (.slice a4 n4 c4)) (.inr (hM6.ne_plate hL5)))
          have HF6 := Lib.hid (Fld.stored (k := 2) (hB4'.trans (x5.le.mono hB4'.size)) hL5 (by simp) (hO4'.later x5) hn4 hCY)
          clear hL5 hM6 hL4 hM5 hO4 hn4 hL4' hO4' hM5' hB4'
          go_wp2_with fail
          refine Mix.done (fun x6 => ?_)
          have HF7 := Lib.hid (HF6.out.later x6)
          have HM7 := Lib.hid (HM6.out.later x6)
          rw [← HSK.out] at HF7 HM7
          clear HF6 HM6 u2 uf ul v0 v1 v2 vl
          go_wp2
          go_roundw
          case rel => exact ⟨k + 1, ⟨x6.w, HF7.out.le⟩, _, rfl, by go_num, by omega, by rw [fromL_snoc]; exact HM7.out, by rw [turnL_snoc]; exact HF7.out⟩
          case measure => simp [intOf]; omega
end Go.Proofs.Ytbjmfhlkmklmmaa
