import Derived.Test.YtieaibebnkdmhaaLaw4
import Derived.Test.YtieaibebnkdmhaaTh9
import Derived.Test.YtieaibebnkdmhaaOwnS
import Derived.Test.YtieaibebnkdmhaaWorks
namespace Go.Proofs.Ytieaibebnkdmhaa
open Go.RowKit

theorem anyTo_true {all : List (List Int)} {t : List Int} {k : Nat} (h : all.length ≤ k) (hm : t ∈ all) : anyTo all t k = true := by rw [anyTo_end _ _ _ h]; exact decide_eq_true hm
theorem eqI_refl (x : List Int) : eqI x x = true := (eqI_iff x x).2 rfl
set_option maxRecDepth 100000 in
set_option maxHeartbeats 4000000 in
theorem LTurned_calls (nv sv : Value) (ns ss : List (List Int)) (a : Int) (w : World) (hn : Rows2 w nv ns) (hs : Rows2 w sv ss) (ha0 : 0 ≤ a) (ha1 : a ≤ 65535) :
    Calls Try.prog 15 #[.agg #[nv, sv], .int .u16 a] w (Gives (.bool true) w) := by
  have hnl := hn.1
  have hsl := hs.1
  obtain ⟨an, cn, rfl⟩ := hn.form
  obtain ⟨aS, cS, rfl⟩ := hs.form
  by_cases hv : vbook ns ss = 0
  rotate_left
  · have hvb : (vbook ns ss == 0) = false := by simpa using hv
    clear hv
    go_enter Try.func15, Try.ntmps15
    go_wp2_with fail
    obtain ⟨B, hB⟩ : ∃ B, B = w.heap.size := ⟨_, rfl⟩
    obtain ⟨z, hz⟩ : ∃ z : Later w, z.w = w.alloc (.cells #[.slice an ns.length cn, .slice aS ss.length cS] 24) := ⟨Later.new _ _, rfl⟩
    have c0 : z.w.cell? ⟨B, 0, none⟩ = some (.slice an ns.length cn) := by rw [hz, hB]; simp [go_sem]
    have c1 : z.w.cell? ⟨B, 1, none⟩ = some (.slice aS ss.length cS) := by rw [hz, hB]; simp [go_sem]
    have hBz : B < z.w.heap.size := by rw [hz, hB]; simp [go_sem]
    have HZ : Hid (z.w.heap.size = B + 1) := Lib.hid (by rw [hz, hB]; simp)
    rw [← hz, ← hB]
    replace hn := hn.later z
    replace hs := hs.later z
    clear hz hB
    refine (fine_calls _ _ ns ss _ hn hs).mono ?_
    rintro e w' ⟨rfl, x, rfl⟩
    rw [hvb]
    go_wp2_with fail
    refine (Works_calls x.w).mono ?_
    rintro e w' ⟨rfl, y, rfl⟩
    go_wp2
    go_ret
    exact ⟨rfl, (z.step x).step y, rfl⟩
  have hvb : (vbook ns ss == 0) = true := by rw [hv]; rfl
  have HV := Lib.hid hv
  clear hv
  go_enter Try.func15, Try.ntmps15
  go_wp2_with fail
  obtain ⟨B, hB⟩ : ∃ B, B = w.heap.size := ⟨_, rfl⟩
  obtain ⟨z, hz⟩ : ∃ z : Later w, z.w = w.alloc (.cells #[.slice an ns.length cn, .slice aS ss.length cS] 24) := ⟨Later.new _ _, rfl⟩
  have c0 : z.w.cell? ⟨B, 0, none⟩ = some (.slice an ns.length cn) := by rw [hz, hB]; simp [go_sem]
  have c1 : z.w.cell? ⟨B, 1, none⟩ = some (.slice aS ss.length cS) := by rw [hz, hB]; simp [go_sem]
  have hBz : B < z.w.heap.size := by rw [hz, hB]; simp [go_sem]
  have HZ : Hid (z.w.heap.size = B + 1) := Lib.hid (by rw [hz, hB]; simp)
  rw [← hz, ← hB]
  replace hn := hn.later z
  replace hs := hs.later z
  clear hz hB
  refine (fine_calls _ _ ns ss _ hn hs).mono ?_
  rintro e w' ⟨rfl, x, rfl⟩
  rw [hvb]
  clear hvb
  go_wp2_with fail
  obtain ⟨X, hX⟩ : ∃ X, X = x.w.heap.size := ⟨_, rfl⟩
  rw [← hX]
  obtain ⟨x1, hx1⟩ : ∃ x1 : Later z.w, x.w.alloc (.cells #[.slice aS ss.length cS, .slice an ns.length cn] 24) = x1.w := ⟨x.step (Later.new _ _), rfl⟩
  have hbx : BoxB x1.w X (.slice aS ss.length cS) (.slice an ns.length cn) := by rw [← hx1, hX]; exact BoxB.new _ _ _
  rw [hx1]
  clear hx1 hX x
  obtain ⟨x, rfl⟩ : ∃ x, x = x1 := ⟨_, rfl⟩
  refine (told_calls _ _ ns ss _ (hn.later x) (hs.later x) HV.out).mono ?_
  rintro e w' ⟨av, fv, lv, y, rfl, rfl, hA, hF, hL⟩
  obtain ⟨q, hq⟩ : ∃ q : Later z.w, y.w = q.w := ⟨x.step y, rfl⟩
  replace hbx := hbx.later y
  rw [hq] at hA hF hL hbx ⊢
  clear hq y x
  obtain ⟨x, rfl⟩ : ∃ x, x = q := ⟨_, rfl⟩
  have hAl := hA.1
  obtain ⟨aA, cA, rfl⟩ := hA.form
  obtain ⟨aF, cF, rfl⟩ := hF.form
  obtain ⟨aL, cL, rfl⟩ := hL.form
  have HV2 := Lib.hid ((vbook_swap ns ss).1 HV.out)
  have gx0 := hbx.cell0
  have gx1 := hbx.cell1
  have sX := hbx.lt
  go_wp2_with fail
  refine (told_calls _ _ ss ns _ (hs.later x) (hn.later x) HV2.out).mono ?_
  rintro e w' ⟨cv, gv, mv, y, rfl, rfl, hC, hG, hM⟩
  clear gx0 gx1 sX hbx
  replace hA := hA.later y
  replace hF := hF.later y
  replace hL := hL.later y
  obtain ⟨q, hq⟩ : ∃ q : Later z.w, y.w = q.w := ⟨x.step y, rfl⟩
  rw [hq] at hA hF hL hC hG hM ⊢
  clear hq y x
  obtain ⟨x, rfl⟩ : ∃ x, x = q := ⟨_, rfl⟩
  obtain ⟨aC, cC, rfl⟩ := hC.form
  obtain ⟨aG, cG, rfl⟩ := hG.form
  obtain ⟨aM, cM, rfl⟩ := hM.form
  have h720 := allOf_720 HV.out
  have hlen := (turned_len ns ss).symm
  have hs6 : ss.length ≤ 6 := (vbook_valid HV.out).2.2.2.1
  have hposA : 0 < (allOf ns ss).length := List.length_pos_of_mem (mem_allOf.2 (claims_sett HV.out))
  have ra0 := Int.emod_nonneg a (show ((allOf ns ss).length : Int) ≠ 0 by omega)
  have ra1 := Int.emod_lt_of_pos a (show (0 : Int) < (allOf ns ss).length by omega)
  have ia : (a % ((allOf ns ss).length : Int)).toNat < (allOf ns ss).length := by omega
  obtain ⟨y, hy⟩ : ∃ y : Later x.w, x.w = y.w := ⟨Later.self _, rfl⟩
  obtain ⟨blm, olm, clm, flm, e, hcpm, hblm, hclm⟩ := hA.at ia
  cases e
  have slm : blm < y.w.heap.size := Nat.lt_of_lt_of_le hblm y.size
  obtain ⟨gzm, hrowm⟩ := hclm (a % ((allOf ns ss).length : Int)).toNat ia
  obtain ⟨arm, crm, efrm⟩ := hrowm.form
  rw [efrm] at gzm hrowm
  have glm := (y.cell hblm).trans gzm
  have hSm := Lib.hid (mem_allOf.1 (row_mem ia))
  clear efrm
  clear hclm
  rw [← hy] at slm glm
  clear hy y
  have gB0 : x.w.cell? ⟨B, 0, none⟩ = some (.slice an ns.length cn) := ((x).cell hBz).trans c0
  have gB1 : x.w.cell? ⟨B, 1, none⟩ = some (.slice aS ss.length cS) := ((x).cell hBz).trans c1
  have sB : B < x.w.heap.size := Nat.lt_of_lt_of_le hBz (x).size
  go_wp2
  refine Mix.region_mixL (Mix.kinds [] [9] []) (by kernel_rfl) (by kernel_rfl) ?_
  repeat ((with_reducible refine Mix.atCons ?_); first | refine Mix.skipU (by rfl) rfl (by rfl) ?_ | (refine Mix.val rfl rfl (by rfl) (fun K hK => ?_); go_big_quiet_op; refine hK _ ?_; clear hK K))
  refine Mix.loud rfl (by rfl) (fun u K hK => ?_)
  go_wp2_with fail
  refine (turned_calls _ _ _ ns ss (row (allOf ns ss) (a % ((allOf ns ss).length : Int)).toNat) u.w ((hn.later x).later u) ((hs.later x).later u) (hrowm.later u) hs6).mono ?_
  rintro e w' ⟨bv, u2, rfl, rfl, hK2⟩
  refine hK _ u2 ?_
  clear hK K
  repeat ((with_reducible refine Mix.atCons ?_); first | refine Mix.skipU (by rfl) rfl (by rfl) ?_ | (refine Mix.val rfl rfl (by rfl) (fun K hK => ?_); go_big_quiet_op; refine hK _ ?_; clear hK K))
  refine Mix.done (fun u3 => ?_)
  have hback := Lib.hid (mem_allOf.2 (sett_inv hSm.out))
  have hback2 := hK2.later u3
  replace hA := (((hA.later u).later u2).later u3)
  replace hF := (((hF.later u).later u2).later u3)
  replace hL := (((hL.later u).later u2).later u3)
  replace hC := (((hC.later u).later u2).later u3)
  replace hG := (((hG.later u).later u2).later u3)
  replace hM := (((hM.later u).later u2).later u3)
  obtain ⟨q, hq⟩ : ∃ q : Later z.w, u3.w = q.w := ⟨((x.step u).step u2).step u3, rfl⟩
  rw [hq] at hA hF hL hC hG hM hback2 ⊢
  clear hq glm gzm hrowm slm gB0 gB1 sB hcpm hK2
  clear hblm hAl u3 u2 u x hA
  obtain ⟨x, rfl⟩ : ∃ x, x = q := ⟨_, rfl⟩
  obtain ⟨back, hbk⟩ : ∃ back, inv (row (allOf ns ss) (a % ((allOf ns ss).length : Int)).toNat) ss.length = back := ⟨_, rfl⟩
  rw [hbk] at hback hback2
  have HLn := Lib.hid hlen
  clear hbk ra0 ra1 ia hSm hlen
  obtain ⟨aK, cK, rfl⟩ := hback2.form
  go_wp2
  go_loopw [15, 16] (fun b i wr => ∃ k : Nat, ∃ bb : Bool, ∃ y : Later x.w, wr = y.w ∧ k ≤ (allOf ns ss).length ∧ i = .int .i64 k ∧ b = .bool bb ∧ Hid (bb = anyTo (allOf ss ns) back k)) (fun _ i _ => (allOf ns ss).length - (intOf i).toNat)
  case atStart => exact ⟨0, false, Later.self _, rfl, Nat.zero_le _, rfl, rfl, by simp [Hid, anyTo]⟩
  case round =>
    obtain ⟨k, bb, y, rfl, hk, rfl, rfl, hbb⟩ := hrel
    by_cases hlt : k < (allOf ns ss).length
    · have hlt' : k < (allOf ss ns).length := by rw [HLn.out]; exact hlt
      obtain ⟨blc, olc, clc, flc, e, hcpc, hblc, hclc⟩ := hC.at hlt'
      cases e
      obtain ⟨gzc, hrowc⟩ := hclc k hlt'
      obtain ⟨arc, crc, efrc⟩ := hrowc.form
      rw [efrc] at gzc hrowc
      have glc := (y.cell hblc).trans gzc
      have slc : blc < y.w.heap.size := Nat.lt_of_lt_of_le hblc y.size
      have hSc := Lib.hid (mem_allOf.1 (row_mem hlt'))
      clear hclc efrc
      have hsu := Lib.hid (anyTo_succ (allOf ss ns) back k hlt')
      clear hlt'
      cases bb
      · go_wp2_with fail
        refine (Ints_calls _ _ (row (allOf ss ns) k) back y.w (hrowc.later y) (hback2.later y)).mono ?_
        rintro e w' ⟨rfl, v, rfl⟩
        go_wp2
        go_roundw
        case rel => exact ⟨k + 1, _, y.step v, rfl, by omega, by go_num, rfl, by unfold Hid; rw [hsu.out, ← hbb.out, Bool.false_or]⟩
        case measure => simp [intOf]; omega
      · go_wp2
        go_roundw
        case rel => exact ⟨k + 1, _, y, rfl, by omega, by go_num, rfl, by unfold Hid; rw [hsu.out, ← hbb.out, Bool.true_or]⟩
        case measure => simp [intOf]; omega
    · obtain rfl : bb = true := by rw [hbb.out]; exact anyTo_true (by rw [HLn.out]; omega) hback.out
      have gB0 : y.w.cell? ⟨B, 0, none⟩ = some (.slice an ns.length cn) := ((x.step y).cell hBz).trans c0
      have gB1 : y.w.cell? ⟨B, 1, none⟩ = some (.slice aS ss.length cS) := ((x.step y).cell hBz).trans c1
      have sB : B < y.w.heap.size := Nat.lt_of_lt_of_le hBz (x.step y).size
      clear hbb
      go_wp2_with fail
      refine (turned_calls _ _ _ ns ss (claimsF (tabOf ns ss) ns) y.w ((hn.later x).later y) ((hs.later x).later y) (hF.later y) hs6).mono ?_
      rintro e w' ⟨iv, v1, rfl, rfl, hI1⟩
      have q1 := Ints_calls _ _ (inv (claimsF (tabOf ns ss) ns) ss.length) (lastF ss ns) v1.w hI1 ((hM.later y).later v1)
      rw [← lastF_inv, eqI_refl] at q1
      go_wp2_with fail
      refine q1.mono ?_
      rintro e w' ⟨rfl, v2, rfl⟩
      obtain ⟨v, hv⟩ : ∃ v : Later x.w, v2.w = v.w := ⟨(y.step v1).step v2, rfl⟩
      rw [hv]
      clear hv q1 hI1 v2 v1 gB0 gB1 sB
      clear y
      have gB0 : v.w.cell? ⟨B, 0, none⟩ = some (.slice an ns.length cn) := ((x.step v).cell hBz).trans c0
      have gB1 : v.w.cell? ⟨B, 1, none⟩ = some (.slice aS ss.length cS) := ((x.step v).cell hBz).trans c1
      have sB : B < v.w.heap.size := Nat.lt_of_lt_of_le hBz (x.step v).size
      go_wp2_with fail
      refine (turned_calls _ _ _ ns ss (lastF ns ss) v.w ((hn.later x).later v) ((hs.later x).later v) (hL.later v) hs6).mono ?_
      rintro e w' ⟨iv, v1, rfl, rfl, hI1⟩
      have q1 := Ints_calls _ _ (inv (lastF ns ss) ss.length) (claimsF (tabOf ss ns) ss) v1.w hI1 ((hG.later v).later v1)
      rw [turned_last HV.out, eqI_refl] at q1
      go_wp2_with fail
      refine q1.mono ?_
      rintro e w' ⟨rfl, v2, rfl⟩
      go_wp2_with fail
      refine (Works_calls v2.w).mono ?_
      rintro e w' ⟨rfl, v3, rfl⟩
      go_wp2
      go_ret
      exact ⟨rfl, ((((z.step x).step v).step v1).step v2).step v3, rfl⟩
  
end Go.Proofs.Ytieaibebnkdmhaa
