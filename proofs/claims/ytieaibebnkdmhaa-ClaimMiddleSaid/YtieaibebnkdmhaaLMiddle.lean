import Derived.Test.YtieaibebnkdmhaaLaw4
import Derived.Test.YtieaibebnkdmhaaTh8
import Derived.Test.YtieaibebnkdmhaaWorks
namespace Go.Proofs.Ytieaibebnkdmhaa
open Go.RowKit

set_option maxRecDepth 100000 in
set_option maxHeartbeats 4000000 in
theorem Middle_calls (nv sv : Value) (ns ss : List (List Int)) (a b c : Int) (w : World) (hn : Rows2 w nv ns) (hs : Rows2 w sv ss) (ha0 : 0 ≤ a) (ha1 : a ≤ 65535) (hb0 : 0 ≤ b) (hb1 : b ≤ 65535) (hc0 : 0 ≤ c) (hc1 : c ≤ 65535) :
    Calls Try.prog 11 #[.agg #[nv, sv], .int .u16 a, .int .u16 b, .int .u16 c] w (Gives (.bool true) w) := by
  have hnl := hn.1
  have hsl := hs.1
  obtain ⟨an, cn, rfl⟩ := hn.form
  obtain ⟨aS, cS, rfl⟩ := hs.form
  by_cases hv : vbook ns ss = 0
  rotate_left
  · have hvb : (vbook ns ss == 0) = false := by simpa using hv
    clear hv
    go_enter Try.func11, Try.ntmps11
    go_wp2_with fail
    obtain ⟨B, hB⟩ : ∃ B, B = w.heap.size := ⟨_, rfl⟩
    obtain ⟨z, hz⟩ : ∃ z : Later w, z.w = w.alloc (.cells #[.slice an ns.length cn, .slice aS ss.length cS] 24) := ⟨Later.new _ _, rfl⟩
    have c0 : z.w.cell? ⟨B, 0, none⟩ = some (.slice an ns.length cn) := by rw [hz, hB]; simp [go_sem]
    have c1 : z.w.cell? ⟨B, 1, none⟩ = some (.slice aS ss.length cS) := by rw [hz, hB]; simp [go_sem]
    have hBz : B < z.w.heap.size := by rw [hz, hB]; simp [go_sem]
    have HZ : Hid (z.w.heap.size = B + 1) := Lib.hid (by rw [hz, hB]; simp)
    rw [← hz, ← hB]
    replace hn := hn.later z
    replace hs := hs.later z
    clear hz hB
    refine (fine_calls _ _ ns ss _ hn hs).mono ?_
    rintro e w' ⟨rfl, x, rfl⟩
    rw [hvb]
    go_wp2_with fail
    refine (Works_calls x.w).mono ?_
    rintro e w' ⟨rfl, y, rfl⟩
    go_wp2
    go_ret
    exact ⟨rfl, (z.step x).step y, rfl⟩
  have hvb : (vbook ns ss == 0) = true := by rw [hv]; rfl
  have HV := Lib.hid hv
  clear hv
  go_enter Try.func11, Try.ntmps11
  go_wp2_with fail
  obtain ⟨B, hB⟩ : ∃ B, B = w.heap.size := ⟨_, rfl⟩
  obtain ⟨z, hz⟩ : ∃ z : Later w, z.w = w.alloc (.cells #[.slice an ns.length cn, .slice aS ss.length cS] 24) := ⟨Later.new _ _, rfl⟩
  have c0 : z.w.cell? ⟨B, 0, none⟩ = some (.slice an ns.length cn) := by rw [hz, hB]; simp [go_sem]
  have c1 : z.w.cell? ⟨B, 1, none⟩ = some (.slice aS ss.length cS) := by rw [hz, hB]; simp [go_sem]
  have hBz : B < z.w.heap.size := by rw [hz, hB]; simp [go_sem]
  have HZ : Hid (z.w.heap.size = B + 1) := Lib.hid (by rw [hz, hB]; simp)
  rw [← hz, ← hB]
  replace hn := hn.later z
  replace hs := hs.later z
  clear hz hB
  refine (fine_calls _ _ ns ss _ hn hs).mono ?_
  rintro e w' ⟨rfl, x, rfl⟩
  rw [hvb]
  clear hvb
  go_wp2_with fail
  refine (told_calls _ _ ns ss _ (hn.later x) (hs.later x) HV.out).mono ?_
  rintro e w' ⟨av, fv, lv, y, rfl, rfl, hA, hF, hL⟩
  obtain ⟨q, hq⟩ : ∃ q : Later z.w, y.w = q.w := ⟨x.step y, rfl⟩
  rw [hq] at hA hF hL ⊢
  clear hq y x
  obtain ⟨x, rfl⟩ : ∃ x, x = q := ⟨_, rfl⟩
  have hAl := hA.1
  obtain ⟨aA, cA, rfl⟩ := hA.form
  obtain ⟨aF, cF, rfl⟩ := hF.form
  obtain ⟨aL, cL, rfl⟩ := hL.form
  have h720 := allOf_720 HV.out
  have hposA : 0 < (allOf ns ss).length := List.length_pos_of_mem (mem_allOf.2 (claims_sett HV.out))
  have ra0 := Int.emod_nonneg a (show ((allOf ns ss).length : Int) ≠ 0 by omega)
  have ra1 := Int.emod_lt_of_pos a (show (0 : Int) < (allOf ns ss).length by omega)
  have ia : (a % ((allOf ns ss).length : Int)).toNat < (allOf ns ss).length := by omega
  have rb0 := Int.emod_nonneg b (show ((allOf ns ss).length : Int) ≠ 0 by omega)
  have rb1 := Int.emod_lt_of_pos b (show (0 : Int) < (allOf ns ss).length by omega)
  have ib : (b % ((allOf ns ss).length : Int)).toNat < (allOf ns ss).length := by omega
  have rc0 := Int.emod_nonneg c (show ((allOf ns ss).length : Int) ≠ 0 by omega)
  have rc1 := Int.emod_lt_of_pos c (show (0 : Int) < (allOf ns ss).length by omega)
  have ic : (c % ((allOf ns ss).length : Int)).toNat < (allOf ns ss).length := by omega
  obtain ⟨y, hy⟩ : ∃ y : Later x.w, x.w = y.w := ⟨Later.self _, rfl⟩
  obtain ⟨blm, olm, clm, flm, e, hcpm, hblm, hclm⟩ := hA.at ia
  cases e
  have slm : blm < y.w.heap.size := Nat.lt_of_lt_of_le hblm y.size
  obtain ⟨gzm, hrowm⟩ := hclm (a % ((allOf ns ss).length : Int)).toNat ia
  obtain ⟨arm, crm, efrm⟩ := hrowm.form
  rw [efrm] at gzm hrowm
  have glm := (y.cell hblm).trans gzm
  have hSm := Lib.hid (mem_allOf.1 (row_mem ia))
  clear efrm
  obtain ⟨gzn, hrown⟩ := hclm (b % ((allOf ns ss).length : Int)).toNat ib
  obtain ⟨arn, crn, efrn⟩ := hrown.form
  rw [efrn] at gzn hrown
  have gln := (y.cell hblm).trans gzn
  have hSn := Lib.hid (mem_allOf.1 (row_mem ib))
  clear efrn
  obtain ⟨gzo, hrowo⟩ := hclm (c % ((allOf ns ss).length : Int)).toNat ic
  obtain ⟨aro, cro, efro⟩ := hrowo.form
  rw [efro] at gzo hrowo
  have glo := (y.cell hblm).trans gzo
  have hSo := Lib.hid (mem_allOf.1 (row_mem ic))
  clear efro
  clear hclm
  rw [← hy] at slm glm gln glo
  clear hy y
  go_wp2
  refine region_later_lit (by kernel_rfl) (by kernel_rfl) ?_
  repeat (first | go_big_quiet_step (first
       | (fail)))
  refine wpQuiet_nil ?_
  intro u
  have hX := hrowm.later u
  have hY := hrown.later u
  have hZ := hrowo.later u
  have h1 := hSm.out
  have h2 := hSn.out
  have h3 := hSo.out
  clear glm gln glo gzm gzn gzo hrowm hrown hrowo slm hSm hSn hSo hA hcpm hblm hF hL
  obtain ⟨q, hq⟩ : ∃ q : Later z.w, u.w = q.w := ⟨x.step u, rfl⟩
  rw [hq] at hX hY hZ ⊢
  clear hq u x
  obtain ⟨x, rfl⟩ : ∃ x, x = q := ⟨_, rfl⟩
  obtain ⟨X, hX0⟩ : ∃ X, row (allOf ns ss) (a % ((allOf ns ss).length : Int)).toNat = X := ⟨_, rfl⟩
  obtain ⟨Y, hY0⟩ : ∃ Y, row (allOf ns ss) (b % ((allOf ns ss).length : Int)).toNat = Y := ⟨_, rfl⟩
  obtain ⟨Z, hZ0⟩ : ∃ Z, row (allOf ns ss) (c % ((allOf ns ss).length : Int)).toNat = Z := ⟨_, rfl⟩
  rw [hX0] at hX h1 ⊢
  rw [hY0] at hY h2 ⊢
  rw [hZ0] at hZ h3 ⊢
  clear hX0 hY0 hZ0 ra0 ra1 rb0 rb1 rc0 rc1 ia ib ic
  have h1 := Lib.hid h1
  have h2 := Lib.hid h2
  have h3 := Lib.hid h3
  have h6 : ns.length ≤ 6 := (vbook_valid HV.out).2.1
  go_wp2
  go_loopw [16, 17] (fun o i wr => ∃ k : Nat, ∃ y : Later x.w, wr = y.w ∧ k ≤ ns.length ∧ i = .int .i64 k ∧ IntsN x.w.heap.size wr o (midL ns X Y Z k)) (fun _ i _ => ns.length - (intOf i).toNat)
  case atStart => exact ⟨0, Later.self _, rfl, Nat.zero_le _, rfl, IntsN.nil _ _⟩
  case round =>
    obtain ⟨k, y, rfl, hk, rfl, hO⟩ := hrel
    rename_i ov
    obtain ⟨ao, no, co, rfl⟩ := hO.form'
    have gB0 : y.w.cell? ⟨B, 0, none⟩ = some (.slice an ns.length cn) := ((x.step y).cell hBz).trans c0
    have gB1 : y.w.cell? ⟨B, 1, none⟩ = some (.slice aS ss.length cS) := ((x.step y).cell hBz).trans c1
    have sB : B < y.w.heap.size := Nat.lt_of_lt_of_le hBz (x.step y).size
    by_cases hlt : k < ns.length
    · have jX : k < X.length := by rw [h1.out.1.len]; exact hlt
      have jY : k < Y.length := by rw [h2.out.1.len]; exact hlt
      have jZ : k < Z.length := by rw [h3.out.1.len]; exact hlt
      obtain ⟨bX, oX, cX, e, hcX, hbX, hgX⟩ := hX.at jX
      cases e
      obtain ⟨bY, oY, cY, e, hcY, hbY, hgY⟩ := hY.at jY
      cases e
      obtain ⟨bZ, oZ, cZ, e, hcZ, hbZ, hgZ⟩ := hZ.at jZ
      cases e
      have gX := (y.cell hbX).trans (hgX k jX)
      have gY := (y.cell hbY).trans (hgY k jY)
      have gZ := (y.cell hbZ).trans (hgZ k jZ)
      have sX : bX < y.w.heap.size := Nat.lt_of_lt_of_le hbX y.size
      have sY : bY < y.w.heap.size := Nat.lt_of_lt_of_le hbY y.size
      have sZ : bZ < y.w.heap.size := Nat.lt_of_lt_of_le hbZ y.size
      obtain ⟨bn, on, cn', fn, e, hcpn, hbn, hcn⟩ := hn.at hlt
      cases e
      obtain ⟨gn0, hrj⟩ := hcn k hlt
      obtain ⟨ar, cr, efr⟩ := hrj.form
      rw [efr] at gn0 hrj
      have gn : y.w.cell? ⟨bn, on + k, none⟩ = some (.slice ar (row ns k).length cr) := ((x.step y).cell hbn).trans gn0
      have sn : bn < y.w.heap.size := Nat.lt_of_lt_of_le hbn (x.step y).size
      have P1 := Lib.hid (fun (u : Later y.w) => Place_calls _ (row ns k) (nth X k) u.w (((hrj.later x).later y).later u))
      have P2 := Lib.hid (fun (u : Later y.w) => Place_calls _ (row ns k) (nth Y k) u.w (((hrj.later x).later y).later u))
      have P3 := Lib.hid (fun (u : Later y.w) => Place_calls _ (row ns k) (nth Z k) u.w (((hrj.later x).later y).later u))
      clear hgX hgY hgZ hcn gn0 efr
      go_wp2
      refine region_later_lit (by kernel_rfl) (by kernel_rfl) ?_
      repeat (first | go_big_quiet_step (first
           | (go_at_call 45; first | (with_reducible exact Later.quiet_same _ (P1.out _)) | (with_reducible exact Later.quiet_same _ (P2.out _)) | (with_reducible exact Later.quiet_same _ (P3.out _)))))
      refine wpQuiet_nil ?_
      intro u
      have hsu := Lib.hid (midL_succ ns X Y Z k)
      have hol : (midL ns X Y Z k).length + 1 ≤ 1000000000000 := by rw [midL_len]; omega
      cases hat : decide ((max (min (plc (row ns k) (nth X k)) (plc (row ns k) (nth Y k))) (min (max (plc (row ns k) (nth X k)) (plc (row ns k) (nth Y k))) (plc (row ns k) (nth Z k)))) < 0)
      · have hge := of_decide_eq_false hat
        have l1 := plc_lt (n := nth X k) (xs := row ns k)
        have l2 := plc_lt (n := nth Y k) (xs := row ns k)
        have l3 := plc_lt (n := nth Z k) (xs := row ns k)
        have t0 : 0 ≤ (max (min (plc (row ns k) (nth X k)) (plc (row ns k) (nth Y k))) (min (max (plc (row ns k) (nth X k)) (plc (row ns k) (nth Y k))) (plc (row ns k) (nth Z k)))) := by omega
        have t1 : (max (min (plc (row ns k) (nth X k)) (plc (row ns k) (nth Y k))) (min (max (plc (row ns k) (nth X k)) (plc (row ns k) (nth Y k))) (plc (row ns k) (nth Z k)))) < (row ns k).length := by omega
        have hmf := Lib.hid (show midF ns X Y Z k = nth (row ns k) (max (min (plc (row ns k) (nth X k)) (plc (row ns k) (nth Y k))) (min (max (plc (row ns k) (nth X k)) (plc (row ns k) (nth Y k))) (plc (row ns k) (nth Z k)))).toNat by simp only [midF]; rw [if_neg hge])
        obtain ⟨bR, oR, cR, e, hcR, hbR, hgR⟩ := hrj.at (k := (max (min (plc (row ns k) (nth X k)) (plc (row ns k) (nth Y k))) (min (max (plc (row ns k) (nth X k)) (plc (row ns k) (nth Y k))) (plc (row ns k) (nth Z k)))).toNat) (by omega)
        cases e
        have gR : u.w.cell? ⟨bR, oR + (max (min (plc (row ns k) (nth X k)) (plc (row ns k) (nth Y k))) (min (max (plc (row ns k) (nth X k)) (plc (row ns k) (nth Y k))) (plc (row ns k) (nth Z k)))).toNat, none⟩ = _ := (((x.step y).step u).cell hbR).trans (hgR (max (min (plc (row ns k) (nth X k)) (plc (row ns k) (nth Y k))) (min (max (plc (row ns k) (nth X k)) (plc (row ns k) (nth Y k))) (plc (row ns k) (nth Z k)))).toNat (by omega))
        have sR : bR < u.w.heap.size := Nat.lt_of_lt_of_le hbR ((x.step y).step u).size
        have gnu := (u.cell sn).trans gn
        have snu : bn < u.w.heap.size := Nat.lt_of_lt_of_le sn u.size
        have gU0 := (u.cell sB).trans gB0
        have sU : B < u.w.heap.size := Nat.lt_of_lt_of_le sB u.size
        clear hgR l1 l2 l3 hge
        obtain ⟨v', q, hrun, hN, _⟩ := app_int_step (y.step u).le (hO.later u) (nth (row ns k) (max (min (plc (row ns k) (nth X k)) (plc (row ns k) (nth Y k))) (min (max (plc (row ns k) (nth X k)) (plc (row ns k) (nth Y k))) (plc (row ns k) (nth Z k)))).toNat) hol 25
        rw [← hmf.out, ← hsu.out] at hN
        simp only [Later.step_w] at hrun
        have HR := Lib.hid hrun
        clear hrun
        go_wp2_with ((with_reducible show wpList _ _ _ (⟨some 127, _, _, _, _, _⟩ :: _) _ _); refine Lib.wpList_append_run_sl _ rfl _ _ 25 rfl _ _ rfl rfl HR.out ?_)
        go_roundw
        case rel => exact ⟨k + 1, q, rfl, by omega, by go_num, hN⟩
        case measure => simp [intOf]; omega
      · have hmf := Lib.hid (show midF ns X Y Z k = -1 by simp only [midF]; rw [if_pos (of_decide_eq_true hat)])
        obtain ⟨v', q, hrun, hN, _⟩ := app_int_step (y.step u).le (hO.later u) (-1) hol 25
        rw [← hmf.out, ← hsu.out] at hN
        simp only [Later.step_w] at hrun
        have HR := Lib.hid hrun
        clear hrun
        go_wp2_with ((with_reducible show wpList _ _ _ (⟨some 116, _, _, _, _, _⟩ :: _) _ _); refine Lib.wpList_append_run_sl _ rfl _ _ 25 rfl _ _ rfl rfl HR.out ?_)
        go_roundw
        case rel => exact ⟨k + 1, q, rfl, by omega, by go_num, hN⟩
        case measure => simp [intOf]; omega
    · obtain rfl : k = ns.length := by omega
      have hms := mid_says HV.out h1.out h2.out h3.out
      have hI := hO.ints (by rw [midL_len]; omega)
      have c1 := CheckMatching_calls _ _ _ ns ss (midL ns X Y Z ns.length) y.w ((hn.later x).later y) ((hs.later x).later y) hI
      rw [hms.2, vmatch_zero.2 ⟨HV.out, hms.1.1⟩] at c1
      have c2 := fun (v : Later y.w) => Unsettled_calls _ _ _ ns ss (midL ns X Y Z ns.length) v.w (((hn.later x).later y).later v) (((hs.later x).later y).later v) (hI.later v)
      rw [show unsR ns ss (midL ns X Y Z ns.length) = (0, 0, 5) by rw [unsR_eq, if_pos (vmatch_zero.2 ⟨HV.out, hms.1.1⟩), hms.1.2]] at c2
      have c3 := fun (v : Later y.w) => CheckMatching_calls _ _ _ ns ss X v.w (((hn.later x).later y).later v) (((hs.later x).later y).later v) ((hX.later y).later v)
      rw [vmatch_zero.2 ⟨HV.out, h1.out.1⟩] at c3
      have C1 := Lib.hid c1
      have C2 := Lib.hid c2
      have C3 := Lib.hid c3
      clear c1 c2 c3 hms
      go_wp2_with fail
      refine C1.out.mono ?_
      rintro e w' ⟨rfl, v, rfl⟩
      go_wp2_with fail
      refine (C2.out v).mono ?_
      rintro e w' ⟨rfl, v2, rfl⟩
      go_wp2_with fail
      refine (C3.out (v.step v2)).mono ?_
      rintro e w' ⟨rfl, v3, rfl⟩
      go_wp2_with fail
      refine (Works_calls v3.w).mono ?_
      rintro e w' ⟨rfl, v4, rfl⟩
      go_wp2
      go_ret
      exact ⟨rfl, (((((z.step x).step y).step v).step v2).step v3).step v4, rfl⟩
end Go.Proofs.Ytieaibebnkdmhaa
