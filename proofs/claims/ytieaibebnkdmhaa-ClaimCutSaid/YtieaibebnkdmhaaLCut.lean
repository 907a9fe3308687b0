import Derived.Test.YtieaibebnkdmhaaLaw4
import Derived.Test.YtieaibebnkdmhaaTh9
import Derived.Test.YtieaibebnkdmhaaOwnS
import Derived.Test.YtieaibebnkdmhaaWorks
import Derived.IntWalk
namespace Go.Proofs.Ytieaibebnkdmhaa
open Go.RowKit

set_option maxRecDepth 100000 in
set_option maxHeartbeats 4000000 in
theorem LCut_calls (nv sv : Value) (ns ss : List (List Int))  (w : World) (hn : Rows2 w nv ns) (hs : Rows2 w sv ss)  :
    Calls Try.prog 14 #[.agg #[nv, sv]] w (Gives (.bool true) w) := by
  have hnl := hn.1
  have hsl := hs.1
  obtain ⟨an, cn, rfl⟩ := hn.form
  obtain ⟨aS, cS, rfl⟩ := hs.form
  by_cases hv : vbook ns ss = 0
  rotate_left
  · have hvb : (vbook ns ss == 0) = false := by simpa using hv
    clear hv
    go_enter Try.func14, Try.ntmps14
    go_wp2_with fail
    obtain ⟨B, hB⟩ : ∃ B, B = w.heap.size := ⟨_, rfl⟩
    obtain ⟨z, hz⟩ : ∃ z : Later w, z.w = w.alloc (.cells #[.slice an ns.length cn, .slice aS ss.length cS] 24) := ⟨Later.new _ _, rfl⟩
    have c0 : z.w.cell? ⟨B, 0, none⟩ = some (.slice an ns.length cn) := by rw [hz, hB]; simp [go_sem]
    have c1 : z.w.cell? ⟨B, 1, none⟩ = some (.slice aS ss.length cS) := by rw [hz, hB]; simp [go_sem]
    have hBz : B < z.w.heap.size := by rw [hz, hB]; simp [go_sem]
    have HZ : Hid (z.w.heap.size = B + 1) := Lib.hid (by rw [hz, hB]; simp)
    rw [← hz, ← hB]
    replace hn := hn.later z
    replace hs := hs.later z
    clear hz hB
    refine (fine_calls _ _ ns ss _ hn hs).mono ?_
    rintro e w' ⟨rfl, x, rfl⟩
    rw [hvb]
    go_wp2_with fail
    refine (Works_calls x.w).mono ?_
    rintro e w' ⟨rfl, y, rfl⟩
    go_wp2
    go_ret
    exact ⟨rfl, (z.step x).step y, rfl⟩
  have hvb : (vbook ns ss == 0) = true := by rw [hv]; rfl
  have HV := Lib.hid hv
  clear hv
  go_enter Try.func14, Try.ntmps14
  go_wp2_with fail
  obtain ⟨B, hB⟩ : ∃ B, B = w.heap.size := ⟨_, rfl⟩
  obtain ⟨z, hz⟩ : ∃ z : Later w, z.w = w.alloc (.cells #[.slice an ns.length cn, .slice aS ss.length cS] 24) := ⟨Later.new _ _, rfl⟩
  have c0 : z.w.cell? ⟨B, 0, none⟩ = some (.slice an ns.length cn) := by rw [hz, hB]; simp [go_sem]
  have c1 : z.w.cell? ⟨B, 1, none⟩ = some (.slice aS ss.length cS) := by rw [hz, hB]; simp [go_sem]
  have hBz : B < z.w.heap.size := by rw [hz, hB]; simp [go_sem]
  have HZ : Hid (z.w.heap.size = B + 1) := Lib.hid (by rw [hz, hB]; simp)
  rw [← hz, ← hB]
  replace hn := hn.later z
  replace hs := hs.later z
  clear hz hB
  refine (fine_calls _ _ ns ss _ hn hs).mono ?_
  rintro e w' ⟨rfl, x, rfl⟩
  rw [hvb]
  clear hvb
  go_wp2_with fail
  refine (told_calls _ _ ns ss _ (hn.later x) (hs.later x) HV.out).mono ?_
  rintro e w' ⟨av, fv, lv, y, rfl, rfl, hA, hF, hL⟩
  obtain ⟨q, hq⟩ : ∃ q : Later z.w, y.w = q.w := ⟨x.step y, rfl⟩
  rw [hq] at hA hF hL ⊢
  clear hq y x
  obtain ⟨x, rfl⟩ : ∃ x, x = q := ⟨_, rfl⟩
  have hAl := hA.1
  obtain ⟨aA, cA, rfl⟩ := hA.form
  obtain ⟨aF, cF, rfl⟩ := hF.form
  obtain ⟨aL, cL, rfl⟩ := hL.form
  have hLs := Lib.hid (last_sett HV.out)
  have h6 : ns.length ≤ 6 := (vbook_valid HV.out).2.1
  have gB0 : x.w.cell? ⟨B, 0, none⟩ = some (.slice an ns.length cn) := ((x).cell hBz).trans c0
  have gB1 : x.w.cell? ⟨B, 1, none⟩ = some (.slice aS ss.length cS) := ((x).cell hBz).trans c1
  have sB : B < x.w.heap.size := Nat.lt_of_lt_of_le hBz (x).size
  go_wp2
  go_loopw [8] (fun i wr => ∃ k : Nat, ∃ u : Value, ∃ y : Later x.w, wr = y.w ∧ k ≤ ns.length ∧ i = .int .i64 k ∧ BoxB y.w x.w.heap.size u (.slice aS ss.length cS) ∧ Rows3 x.w.heap.size (x.w.heap.size + 1) y.w u (cutL ns (lastF ns ss) k)) (fun i _ => ns.length - (intOf i).toNat)
  case atStart => exact ⟨0, .slice none 0 0, Later.new _ _, rfl, Nat.zero_le _, rfl, BoxB.new _ _ _, Rows3.nil _ _ _⟩
  case round =>
    obtain ⟨k, u, y, rfl, hk, rfl, hbx, hRW⟩ := hrel
    obtain ⟨au, nu, cu, rfl⟩ := hRW.form'
    have gx0 := hbx.cell0
    have gx1 := hbx.cell1
    have fx0 := hbx.frozen0
    have sX := hbx.lt
    have gB0 : y.w.cell? ⟨B, 0, none⟩ = some (.slice an ns.length cn) := ((x.step y).cell hBz).trans c0
    have gB1 : y.w.cell? ⟨B, 1, none⟩ = some (.slice aS ss.length cS) := ((x.step y).cell hBz).trans c1
    have sB : B < y.w.heap.size := Nat.lt_of_lt_of_le hBz (x.step y).size
    by_cases hlt : k < ns.length
    · have hlN : k < (lastF ns ss).length := by rw [hLs.out.1.len]; exact hlt
      obtain ⟨bL, oL, cL', e, hcL, hbL, hgL⟩ := hL.at hlN
      cases e
      have gL := (y.cell hbL).trans (hgL k hlN)
      have sL : bL < y.w.heap.size := Nat.lt_of_lt_of_le hbL y.size
      obtain ⟨bn, on, cn', fn, e, hcpn, hbn, hcn⟩ := hn.at hlt
      cases e
      obtain ⟨gn0, hrj⟩ := hcn k hlt
      obtain ⟨ar, cr, efr⟩ := hrj.form
      rw [efr] at gn0 hrj
      have gn : y.w.cell? ⟨bn, on + k, none⟩ = some (.slice ar (row ns k).length cr) := ((x.step y).cell hbn).trans gn0
      have sn : bn < y.w.heap.size := Nat.lt_of_lt_of_le hbn (x.step y).size
      have P1 := Lib.hid (Place_calls _ (row ns k) (nth (lastF ns ss) k) y.w ((hrj.later x).later y))
      have hrl := hrj.1
      have hsu := Lib.hid (cutL_succ ns (lastF ns ss) k)
      have hol : (cutL ns (lastF ns ss) k).length + 1 ≤ 1000000000000 := by rw [cutL_len]; omega
      clear hgL hcn gn0 efr
      by_cases h0 : 0 ≤ plc (row ns k) (nth (lastF ns ss) k)
      · have h1 := plc_lt (n := nth (lastF ns ss) k) (xs := row ns k)
        have hcap : (row ns k).length ≤ cr := by
          obtain ⟨_, _, _, e, hcp, _⟩ := hrj.at (k := 0) (by omega)
          cases e; exact hcp
        obtain ⟨p, hp⟩ : ∃ p : Nat, plc (row ns k) (nth (lastF ns ss) k) = p := ⟨(plc (row ns k) (nth (lastF ns ss) k)).toNat, by omega⟩
        have hcut := Lib.hid (show cutR (row ns k) (nth (lastF ns ss) k) = (row ns k).take (p + 1) by rw [cutR, if_pos h0, hp]; rfl)
        rw [hp] at P1 h0 h1
        have hrt := (((hrj.later x).later y).takeS (j := p + 1) (by omega))
        rw [← hcut.out] at hrt
        obtain ⟨na, nn, nc, w', hrun, hN, hg⟩ := app_row3 (lx := x.w.heap.size) (lo := x.w.heap.size + 1) (by omega) (by have := hbx.lt; omega) hRW hrt (by exact Sep.of_ints ((hrj.later x).takeS (j := p + 1) (by omega))) hol 22
        rw [← hsu.out] at hN
        have hbx' := hbx.kept hg (hRW.not_box hbx)
        have gw0 := hbx'.cell0
        have gw1 := hbx'.cell1
        have fw0 := hbx'.frozen0
        have sw := hbx'.lt
        have hBel := (y.le.grown hg y.size (fun j hj => by have := (hRW.lt hj).1; omega)).setCell (p := ⟨x.w.heap.size, 0, none⟩) (by show _ ≤ x.w.heap.size; omega) (.slice na nn nc)
        have HR := Lib.hid hrun
        have e1 : IntKind.i64.wrap ((p : Int) + 1) = (p : Int) + 1 := IntWalk.i64_in _ (by omega)
        clear hrun hrt hg
        go_wp2_with (first | (go_at_call 45; refine P1.out.mono ?_; rintro e w' ⟨rfl, rfl⟩) | ((with_reducible show wpList _ _ _ (⟨some 58, _, _, _, _, _⟩ :: _) _ _); refine Lib.wpList_append_run_sl _ rfl _ _ 22 rfl _ _ rfl rfl HR.out ?_))
        go_roundw
        case rel => exact ⟨k + 1, .slice na nn nc, ⟨_, hBel⟩, rfl, by omega, by go_num, hbx'.set0 _, hN.set0 hbx' (Nat.le_refl _) 0 _⟩
        case measure => simp [intOf]; omega
      · have hcut := Lib.hid (show cutR (row ns k) (nth (lastF ns ss) k) = row ns k by rw [cutR, if_neg h0])
        have hrt := ((hrj.later x).later y)
        obtain ⟨na, nn, nc, w', hrun, hN, hg⟩ := app_row3 (lx := x.w.heap.size) (lo := x.w.heap.size + 1) (by omega) (by have := hbx.lt; omega) hRW hrt (by exact Sep.of_ints (hrj.later x)) hol 22
        rw [← hcut.out, ← hsu.out] at hN
        have hbx' := hbx.kept hg (hRW.not_box hbx)
        have gw0 := hbx'.cell0
        have gw1 := hbx'.cell1
        have fw0 := hbx'.frozen0
        have sw := hbx'.lt
        have hBel := (y.le.grown hg y.size (fun j hj => by have := (hRW.lt hj).1; omega)).setCell (p := ⟨x.w.heap.size, 0, none⟩) (by show _ ≤ x.w.heap.size; omega) (.slice na nn nc)
        have HR := Lib.hid hrun
        clear hrun hrt hg
        go_wp2_with (first | (go_at_call 45; refine P1.out.mono ?_; rintro e w' ⟨rfl, rfl⟩) | ((with_reducible show wpList _ _ _ (⟨some 58, _, _, _, _, _⟩ :: _) _ _); refine Lib.wpList_append_run_sl _ rfl _ _ 22 rfl _ _ rfl rfl HR.out ?_))
        go_roundw
        case rel => exact ⟨k + 1, .slice na nn nc, ⟨_, hBel⟩, rfl, by omega, by go_num, hbx'.set0 _, hN.set0 hbx' (Nat.le_refl _) 0 _⟩
        case measure => simp [intOf]; omega
    · obtain rfl : k = ns.length := by omega
      have hRX := hRW.rows (by omega) (by rw [cutL_len]; omega)
      have hV2 := cut_valid HV.out (lastF ns ss)
      go_wp2_with fail
      refine (told_calls _ _ (cutL ns (lastF ns ss) ns.length) ss _ hRX ((hs.later x).later y) hV2).mono ?_
      rintro e w' ⟨cv, gv, mv, v, rfl, rfl, hC, hG, hM⟩
      rw [cut_all HV.out] at hC
      rw [cut_first HV.out] at hG
      rw [cut_last HV.out] at hM
      obtain ⟨aC, cC, rfl⟩ := hC.form
      obtain ⟨aG, cG, rfl⟩ := hG.form
      obtain ⟨aM, cM, rfl⟩ := hM.form
      have q1 := Lists_calls _ _ (allOf ns ss) (allOf ns ss) v.w ((hA.later y).later v) hC
      rw [(eqL_iff _ _).2 rfl] at q1
      go_wp2_with fail
      refine q1.mono ?_
      rintro e w' ⟨rfl, v1, rfl⟩
      have q2 := Ints_calls _ _ (claimsF (tabOf ns ss) ns) (claimsF (tabOf ns ss) ns) v1.w (((hF.later y).later v).later v1) (hG.later v1)
      rw [(eqI_iff _ _).2 rfl] at q2
      go_wp2_with fail
      refine q2.mono ?_
      rintro e w' ⟨rfl, v2, rfl⟩
      have q3 := Ints_calls _ _ (lastF ns ss) (lastF ns ss) v2.w ((((hL.later y).later v).later v1).later v2) ((hM.later v1).later v2)
      rw [(eqI_iff _ _).2 rfl] at q3
      go_wp2_with fail
      refine q3.mono ?_
      rintro e w' ⟨rfl, v3, rfl⟩
      go_wp2_with fail
      refine (Works_calls v3.w).mono ?_
      rintro e w' ⟨rfl, v4, rfl⟩
      go_wp2
      go_ret
      exact ⟨rfl, (((((((z.step x).step y).step v).step v1).step v2).step v3).step v4), rfl⟩
  
end Go.Proofs.Ytieaibebnkdmhaa
