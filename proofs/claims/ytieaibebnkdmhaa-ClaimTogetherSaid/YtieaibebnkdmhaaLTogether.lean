import Derived.Test.YtieaibebnkdmhaaLaw4
import Derived.Test.YtieaibebnkdmhaaTh7
import Derived.Test.YtieaibebnkdmhaaLPuts
import Derived.Test.YtieaibebnkdmhaaTab
namespace Go.Proofs.Ytieaibebnkdmhaa
open Go.RowKit

theorem Better_sett (nv sv mv lv : Value) (ns ss : List (List Int)) (m l : List Int) (w : World) (hn : Rows2 w nv ns) (hs : Rows2 w sv ss) (hm : Ints w mv m) (hl : Ints w lv l) (hv : vbook ns ss = 0) (h1 : Sett ns ss m) (h2 : Sett ns ss l) :
    Calls Try.prog 35 #[.agg #[nv, sv], mv, lv] w (GivesL (putN ns m l false) 0 w) := by
  have h := Better_calls nv sv mv lv ns ss m l w hn hs hm hl
  rw [BetterR_eq, rBW_eq h1 h2 hv, (put_vsett h1 h2).2 hv] at h
  exact h
theorem Worse_sett (nv sv mv lv : Value) (ns ss : List (List Int)) (m l : List Int) (w : World) (hn : Rows2 w nv ns) (hs : Rows2 w sv ss) (hm : Ints w mv m) (hl : Ints w lv l) (hv : vbook ns ss = 0) (h1 : Sett ns ss m) (h2 : Sett ns ss l) :
    Calls Try.prog 37 #[.agg #[nv, sv], mv, lv] w (GivesL (putN ns m l true) 0 w) := by
  have h := Worse_calls nv sv mv lv ns ss m l w hn hs hm hl
  rw [WorseR_eq, rBW_eq h1 h2 hv, (put_vsett h1 h2).2 hv] at h
  exact h
/-- the region of line 157 -/
def tab22 : List Tab := [⟨[], some 197, [13]⟩, ⟨[], some 198, [29]⟩, ⟨[0, 1], some 199, [197, 198]⟩, ⟨[2], some 200, [199]⟩, ⟨[], some 201, [11]⟩, ⟨[], some 202, [29]⟩, ⟨[4, 5], some 203, [201, 202]⟩, ⟨[6], some 204, [203]⟩, ⟨[3, 7], some 205, [200, 204]⟩, ⟨[8], some 206, [205]⟩, ⟨[9], some 207, [13, 206]⟩, ⟨[9], some 208, [29, 206]⟩, ⟨[10, 11, 9], some 209, [207, 208, 206]⟩, ⟨[12, 9], some 210, [209, 206]⟩, ⟨[9], some 211, [12, 206]⟩, ⟨[9], some 212, [29, 206]⟩, ⟨[14, 15, 9], some 213, [211, 212, 206]⟩, ⟨[16, 9], some 214, [213, 206]⟩, ⟨[13, 17, 9], some 215, [210, 214, 206]⟩, ⟨[9, 18], some 216, [206, 215]⟩, ⟨[19, 9], some 217, [216]⟩, ⟨[20], some 218, [17, 217]⟩, ⟨[20], some 219, [29, 217]⟩, ⟨[21, 22, 20], some 220, [218, 219, 217]⟩, ⟨[23, 20], some 221, [220, 217]⟩, ⟨[20], some 222, [11, 217]⟩, ⟨[20], some 223, [29, 217]⟩, ⟨[25, 26, 20], some 224, [222, 223, 217]⟩, ⟨[27, 20], some 225, [224, 217]⟩, ⟨[24, 28, 20], some 226, [221, 225, 217]⟩, ⟨[29, 20, 20], some 227, [226, 217]⟩, ⟨[30], some 228, [17, 227]⟩, ⟨[30], some 229, [29, 227]⟩, ⟨[31, 32, 30], some 230, [228, 229, 227]⟩, ⟨[33, 30], some 231, [230, 227]⟩, ⟨[30], some 232, [12, 227]⟩, ⟨[30], some 233, [29, 227]⟩, ⟨[35, 36, 30], some 234, [232, 233, 227]⟩, ⟨[37, 30], some 235, [234, 227]⟩, ⟨[34, 38, 30], some 236, [231, 235, 227]⟩, ⟨[30, 39, 20], some 237, [227, 236, 217]⟩, ⟨[20, 40], some 238, [217, 237]⟩, ⟨[41, 30], some 239, [238]⟩, ⟨[42], some 240, [3, 239]⟩, ⟨[43, 42], some 241, [240, 239]⟩, ⟨[42], some 242, [29, 239]⟩, ⟨[44, 45, 42], some 243, [241, 242, 239]⟩, ⟨[46, 42], some 244, [243, 239]⟩, ⟨[42], some 245, [11, 239]⟩, ⟨[42], some 246, [29, 239]⟩, ⟨[48, 49, 42], some 247, [245, 246, 239]⟩, ⟨[50, 42], some 248, [247, 239]⟩, ⟨[42], some 249, [13, 239]⟩, ⟨[42], some 250, [29, 239]⟩, ⟨[52, 53, 42], some 251, [249, 250, 239]⟩, ⟨[54, 42], some 252, [251, 239]⟩, ⟨[47, 51, 55, 42, 42], some 253, [244, 248, 252, 239]⟩, ⟨[42, 56], some 254, [239, 253]⟩, ⟨[57, 56], some 255, [254]⟩, ⟨[58], some 256, [3, 255]⟩, ⟨[59, 58], some 257, [256, 255]⟩, ⟨[58], some 258, [29, 255]⟩, ⟨[60, 61, 58], some 259, [257, 258, 255]⟩, ⟨[62, 58], some 260, [259, 255]⟩, ⟨[58], some 261, [12, 255]⟩, ⟨[58], some 262, [29, 255]⟩, ⟨[64, 65, 58], some 263, [261, 262, 255]⟩, ⟨[66, 58], some 264, [263, 255]⟩, ⟨[58], some 265, [13, 255]⟩, ⟨[58], some 266, [29, 255]⟩, ⟨[68, 69, 58], some 267, [265, 266, 255]⟩, ⟨[70, 58], some 268, [267, 255]⟩, ⟨[63, 67, 71, 58, 58], some 269, [260, 264, 268, 255]⟩, ⟨[58, 72], some 270, [255, 269]⟩, ⟨[73, 72], some 271, [270]⟩, ⟨[74], some 272, [3, 271]⟩, ⟨[75, 74], some 273, [272, 271]⟩, ⟨[74], some 274, [29, 271]⟩, ⟨[76, 77, 74], some 275, [273, 274, 271]⟩, ⟨[78, 74], some 276, [275, 271]⟩, ⟨[74], some 277, [17, 271]⟩, ⟨[74], some 278, [29, 271]⟩, ⟨[80, 81, 74], some 279, [277, 278, 271]⟩, ⟨[82, 74], some 280, [279, 271]⟩, ⟨[74], some 281, [11, 271]⟩, ⟨[74], some 282, [29, 271]⟩, ⟨[84, 85, 74], some 283, [281, 282, 271]⟩, ⟨[86, 74], some 284, [283, 271]⟩, ⟨[79, 83, 87, 74, 74], some 285, [276, 280, 284, 271]⟩, ⟨[74, 88], some 286, [271, 285]⟩, ⟨[89, 88], some 287, [286]⟩, ⟨[90], some 288, [3, 287]⟩, ⟨[91, 90], some 289, [288, 287]⟩, ⟨[90], some 290, [29, 287]⟩, ⟨[92, 93, 90], some 291, [289, 290, 287]⟩, ⟨[94, 90], some 292, [291, 287]⟩, ⟨[90], some 293, [17, 287]⟩, ⟨[90], some 294, [29, 287]⟩, ⟨[96, 97, 90], some 295, [293, 294, 287]⟩, ⟨[98, 90], some 296, [295, 287]⟩, ⟨[90], some 297, [12, 287]⟩, ⟨[90], some 298, [29, 287]⟩, ⟨[100, 101, 90], some 299, [297, 298, 287]⟩, ⟨[102, 90], some 300, [299, 287]⟩, ⟨[95, 99, 103, 90, 90], some 301, [292, 296, 300, 287]⟩, ⟨[90, 104], some 302, [287, 301]⟩]
theorem rem_row {n len : Nat} {a : Int} (h : 0 < len) (e : n = (a % (len : Int)).toNat) : n < len := by
  have h1 := Int.emod_nonneg a (show (len : Int) ≠ 0 by omega)
  have h2 := Int.emod_lt_of_pos a (show (0 : Int) < len by omega)
  omega
set_option maxRecDepth 100000 in
set_option maxHeartbeats 4000000 in
theorem Together_calls (nv sv : Value) (ns ss : List (List Int)) (a b : Int) (w : World) (hn : Rows2 w nv ns) (hs : Rows2 w sv ss) (ha0 : 0 ≤ a) (ha1 : a ≤ 65535) (hb0 : 0 ≤ b) (hb1 : b ≤ 65535) :
    Calls Try.prog 10 #[.agg #[nv, sv], .int .u16 a, .int .u16 b] w (Gives (.bool true) w) := by
  have hnl := hn.1
  have hsl := hs.1
  obtain ⟨an, cn, rfl⟩ := hn.form
  obtain ⟨aS, cS, rfl⟩ := hs.form
  by_cases hv : vbook ns ss = 0
  rotate_left
  · have hvb : (vbook ns ss == 0) = false := by simpa using hv
    clear hv
    go_enter Try.func10, Try.ntmps10
    go_wp2_with fail
    obtain ⟨B, hB⟩ : ∃ B, B = w.heap.size := ⟨_, rfl⟩
    obtain ⟨z, hz⟩ : ∃ z : Later w, z.w = w.alloc (.cells #[.slice an ns.length cn, .slice aS ss.length cS] 24) := ⟨Later.new _ _, rfl⟩
    have c0 : z.w.cell? ⟨B, 0, none⟩ = some (.slice an ns.length cn) := by rw [hz, hB]; simp [go_sem]
    have c1 : z.w.cell? ⟨B, 1, none⟩ = some (.slice aS ss.length cS) := by rw [hz, hB]; simp [go_sem]
    have hBz : B < z.w.heap.size := by rw [hz, hB]; simp [go_sem]
    have HZ : Hid (z.w.heap.size = B + 1) := Lib.hid (by rw [hz, hB]; simp)
    rw [← hz, ← hB]
    replace hn := hn.later z
    replace hs := hs.later z
    clear hz hB
    refine (fine_calls _ _ ns ss _ hn hs).mono ?_
    rintro e w' ⟨rfl, x, rfl⟩
    rw [hvb]
    go_wp2_with fail
    refine (Works_calls x.w).mono ?_
    rintro e w' ⟨rfl, y, rfl⟩
    go_wp2
    go_ret
    exact ⟨rfl, (z.step x).step y, rfl⟩
  have hvb : (vbook ns ss == 0) = true := by rw [hv]; rfl
  have HV := Lib.hid hv
  clear hv
  go_enter Try.func10, Try.ntmps10
  go_wp2_with fail
  obtain ⟨B, hB⟩ : ∃ B, B = w.heap.size := ⟨_, rfl⟩
  obtain ⟨z, hz⟩ : ∃ z : Later w, z.w = w.alloc (.cells #[.slice an ns.length cn, .slice aS ss.length cS] 24) := ⟨Later.new _ _, rfl⟩
  have c0 : z.w.cell? ⟨B, 0, none⟩ = some (.slice an ns.length cn) := by rw [hz, hB]; simp [go_sem]
  have c1 : z.w.cell? ⟨B, 1, none⟩ = some (.slice aS ss.length cS) := by rw [hz, hB]; simp [go_sem]
  have hBz : B < z.w.heap.size := by rw [hz, hB]; simp [go_sem]
  have HZ : Hid (z.w.heap.size = B + 1) := Lib.hid (by rw [hz, hB]; simp)
  rw [← hz, ← hB]
  replace hn := hn.later z
  replace hs := hs.later z
  clear hz hB
  refine (fine_calls _ _ ns ss _ hn hs).mono ?_
  rintro e w' ⟨rfl, x, rfl⟩
  rw [hvb]
  clear hvb
  go_wp2_with fail
  refine (told_calls _ _ ns ss _ (hn.later x) (hs.later x) HV.out).mono ?_
  rintro e w' ⟨av, fv, lv, y, rfl, rfl, hA, hF, hL⟩
  obtain ⟨q, hq⟩ : ∃ q : Later z.w, y.w = q.w := ⟨x.step y, rfl⟩
  rw [hq] at hA hF hL ⊢
  clear hq y x
  obtain ⟨x, rfl⟩ : ∃ x, x = q := ⟨_, rfl⟩
  have hAl := hA.1
  obtain ⟨aA, cA, rfl⟩ := hA.form
  obtain ⟨aF, cF, rfl⟩ := hF.form
  obtain ⟨aL, cL, rfl⟩ := hL.form
  have h720 := allOf_720 HV.out
  have hposA : 0 < (allOf ns ss).length := List.length_pos_of_mem (mem_allOf.2 (claims_sett HV.out))
  have ra0 := Int.emod_nonneg a (show ((allOf ns ss).length : Int) ≠ 0 by omega)
  have ra1 := Int.emod_lt_of_pos a (show (0 : Int) < (allOf ns ss).length by omega)
  have rb0 := Int.emod_nonneg b (show ((allOf ns ss).length : Int) ≠ 0 by omega)
  have rb1 := Int.emod_lt_of_pos b (show (0 : Int) < (allOf ns ss).length by omega)
  have i1 : (a % ((allOf ns ss).length : Int)).toNat < (allOf ns ss).length := by omega
  have i2 : (b % ((allOf ns ss).length : Int)).toNat < (allOf ns ss).length := by omega
  obtain ⟨y, hy⟩ : ∃ y : Later x.w, x.w = y.w := ⟨Later.self _, rfl⟩
  obtain ⟨blm, olm, clm, flm, e, hcpm, hblm, hclm⟩ := hA.at i1
  cases e
  have slm : blm < y.w.heap.size := Nat.lt_of_lt_of_le hblm y.size
  obtain ⟨gzm, hrowm⟩ := hclm (a % ((allOf ns ss).length : Int)).toNat i1
  obtain ⟨arm, crm, efrm⟩ := hrowm.form
  rw [efrm] at gzm hrowm
  have glm := (y.cell hblm).trans gzm
  have hSm := Lib.hid (mem_allOf.1 (row_mem i1))
  clear efrm
  obtain ⟨gzn, hrown⟩ := hclm (b % ((allOf ns ss).length : Int)).toNat i2
  obtain ⟨arn, crn, efrn⟩ := hrown.form
  rw [efrn] at gzn hrown
  have gln := (y.cell hblm).trans gzn
  have hSn := Lib.hid (mem_allOf.1 (row_mem i2))
  clear efrn
  clear hclm
  rw [← hy] at slm glm gln
  clear hy y
  go_wp2
  refine region_later_lit (by kernel_rfl) (by kernel_rfl) ?_
  repeat (first | go_big_quiet_step (first
       | (fail)))
  refine wpQuiet_nil ?_
  intro u
  have hM := hrowm.later u
  have hN := hrown.later u
  replace hF := hF.later u
  replace hL := hL.later u
  have h1 := hSm.out
  have h2 := hSn.out
  clear glm gln gzm gzn hrowm hrown slm hSm hSn hA hcpm hblm
  obtain ⟨q, hq⟩ : ∃ q : Later z.w, u.w = q.w := ⟨x.step u, rfl⟩
  rw [hq] at hM hN hF hL ⊢
  clear hq u x
  obtain ⟨x, rfl⟩ : ∃ x, x = q := ⟨_, rfl⟩
  obtain ⟨mm, hmm⟩ : ∃ mm, row (allOf ns ss) (a % ((allOf ns ss).length : Int)).toNat = mm := ⟨_, rfl⟩
  obtain ⟨nn, hnn⟩ : ∃ nn, row (allOf ns ss) (b % ((allOf ns ss).length : Int)).toNat = nn := ⟨_, rfl⟩
  rw [hmm] at hM h1 ⊢
  rw [hnn] at hN h2 ⊢
  clear hmm hnn ra0 ra1 rb0 rb1 i1 i2
  have h1 := Lib.hid h1
  have h2 := Lib.hid h2
  have hf := Lib.hid (claims_sett HV.out)
  have hl := Lib.hid (last_sett HV.out)
  go_wp2_with fail
  have h := Better_sett _ _ _ _ ns ss mm nn x.w (hn.later x) (hs.later x) hM hN HV.out h1.out h2.out
  refine h.mono ?_
  clear h
  rintro e w' ⟨v_hX, y, rfl, rfl, hX⟩
  replace hM := hM.later y
  replace hN := hN.later y
  replace hF := hF.later y
  replace hL := hL.later y
  obtain ⟨q, hq⟩ : ∃ q : Later z.w, y.w = q.w := ⟨x.step y, rfl⟩
  rw [hq] at hM hN hF hL hX ⊢
  clear hq y x
  obtain ⟨x, rfl⟩ : ∃ x, x = q := ⟨_, rfl⟩
  obtain ⟨a_hX, n_hX, c_hX, rfl⟩ : ∃ a n c, v_hX = .slice a n c := by obtain ⟨a, c, e⟩ := hX.form; exact ⟨a, _, c, e⟩
  go_wp2_with fail
  have h := Better_sett _ _ _ _ ns ss nn mm x.w (hn.later x) (hs.later x) hN hM HV.out h2.out h1.out
  rw [put_comm h2.out h1.out] at h
  refine h.mono ?_
  clear h
  rintro e w' ⟨v_hY, y, rfl, rfl, hY⟩
  replace hM := hM.later y
  replace hN := hN.later y
  replace hF := hF.later y
  replace hL := hL.later y
  replace hX := hX.later y
  obtain ⟨q, hq⟩ : ∃ q : Later z.w, y.w = q.w := ⟨x.step y, rfl⟩
  rw [hq] at hM hN hF hL hX hY ⊢
  clear hq y x
  obtain ⟨x, rfl⟩ : ∃ x, x = q := ⟨_, rfl⟩
  obtain ⟨a_hY, n_hY, c_hY, rfl⟩ : ∃ a n c, v_hY = .slice a n c := by obtain ⟨a, c, e⟩ := hY.form; exact ⟨a, _, c, e⟩
  go_wp2_with fail
  have h := Worse_sett _ _ _ _ ns ss mm nn x.w (hn.later x) (hs.later x) hM hN HV.out h1.out h2.out
  refine h.mono ?_
  clear h
  rintro e w' ⟨v_hU, y, rfl, rfl, hU⟩
  replace hM := hM.later y
  replace hN := hN.later y
  replace hF := hF.later y
  replace hL := hL.later y
  replace hX := hX.later y
  replace hY := hY.later y
  obtain ⟨q, hq⟩ : ∃ q : Later z.w, y.w = q.w := ⟨x.step y, rfl⟩
  rw [hq] at hM hN hF hL hX hY hU ⊢
  clear hq y x
  obtain ⟨x, rfl⟩ : ∃ x, x = q := ⟨_, rfl⟩
  obtain ⟨a_hU, n_hU, c_hU, rfl⟩ : ∃ a n c, v_hU = .slice a n c := by obtain ⟨a, c, e⟩ := hU.form; exact ⟨a, _, c, e⟩
  go_wp2_with fail
  have h := Worse_sett _ _ _ _ ns ss nn mm x.w (hn.later x) (hs.later x) hN hM HV.out h2.out h1.out
  rw [put_comm h2.out h1.out] at h
  refine h.mono ?_
  clear h
  rintro e w' ⟨v_hV, y, rfl, rfl, hV⟩
  replace hM := hM.later y
  replace hN := hN.later y
  replace hF := hF.later y
  replace hL := hL.later y
  replace hX := hX.later y
  replace hY := hY.later y
  replace hU := hU.later y
  obtain ⟨q, hq⟩ : ∃ q : Later z.w, y.w = q.w := ⟨x.step y, rfl⟩
  rw [hq] at hM hN hF hL hX hY hU hV ⊢
  clear hq y x
  obtain ⟨x, rfl⟩ : ∃ x, x = q := ⟨_, rfl⟩
  obtain ⟨a_hV, n_hV, c_hV, rfl⟩ : ∃ a n c, v_hV = .slice a n c := by obtain ⟨a, c, e⟩ := hV.form; exact ⟨a, _, c, e⟩
  go_wp2_with fail
  have h := Better_sett _ _ _ _ ns ss mm mm x.w (hn.later x) (hs.later x) hM hM HV.out h1.out h1.out
  rw [put_same h1.out] at h
  refine h.mono ?_
  clear h
  rintro e w' ⟨v_hP, y, rfl, rfl, hP⟩
  replace hM := hM.later y
  replace hN := hN.later y
  replace hF := hF.later y
  replace hL := hL.later y
  replace hX := hX.later y
  replace hY := hY.later y
  replace hU := hU.later y
  replace hV := hV.later y
  obtain ⟨q, hq⟩ : ∃ q : Later z.w, y.w = q.w := ⟨x.step y, rfl⟩
  rw [hq] at hM hN hF hL hX hY hU hV hP ⊢
  clear hq y x
  obtain ⟨x, rfl⟩ : ∃ x, x = q := ⟨_, rfl⟩
  obtain ⟨a_hP, n_hP, c_hP, rfl⟩ : ∃ a n c, v_hP = .slice a n c := by obtain ⟨a, c, e⟩ := hP.form; exact ⟨a, _, c, e⟩
  go_wp2_with fail
  have h := Worse_sett _ _ _ _ ns ss mm mm x.w (hn.later x) (hs.later x) hM hM HV.out h1.out h1.out
  rw [put_same h1.out] at h
  refine h.mono ?_
  clear h
  rintro e w' ⟨v_hQ, y, rfl, rfl, hQ⟩
  replace hM := hM.later y
  replace hN := hN.later y
  replace hF := hF.later y
  replace hL := hL.later y
  replace hX := hX.later y
  replace hY := hY.later y
  replace hU := hU.later y
  replace hV := hV.later y
  replace hP := hP.later y
  obtain ⟨q, hq⟩ : ∃ q : Later z.w, y.w = q.w := ⟨x.step y, rfl⟩
  rw [hq] at hM hN hF hL hX hY hU hV hP hQ ⊢
  clear hq y x
  obtain ⟨x, rfl⟩ : ∃ x, x = q := ⟨_, rfl⟩
  obtain ⟨a_hQ, n_hQ, c_hQ, rfl⟩ : ∃ a n c, v_hQ = .slice a n c := by obtain ⟨a, c, e⟩ := hQ.form; exact ⟨a, _, c, e⟩
  go_wp2_with fail
  have h := Better_sett _ _ _ _ ns ss mm (claimsF (tabOf ns ss) ns) x.w (hn.later x) (hs.later x) hM hF HV.out h1.out hf.out
  rw [put_first HV.out h1.out] at h
  refine h.mono ?_
  clear h
  rintro e w' ⟨v_hR, y, rfl, rfl, hR⟩
  replace hM := hM.later y
  replace hN := hN.later y
  replace hF := hF.later y
  replace hL := hL.later y
  replace hX := hX.later y
  replace hY := hY.later y
  replace hU := hU.later y
  replace hV := hV.later y
  replace hP := hP.later y
  replace hQ := hQ.later y
  obtain ⟨q, hq⟩ : ∃ q : Later z.w, y.w = q.w := ⟨x.step y, rfl⟩
  rw [hq] at hM hN hF hL hX hY hU hV hP hQ hR ⊢
  clear hq y x
  obtain ⟨x, rfl⟩ : ∃ x, x = q := ⟨_, rfl⟩
  obtain ⟨a_hR, n_hR, c_hR, rfl⟩ : ∃ a n c, v_hR = .slice a n c := by obtain ⟨a, c, e⟩ := hR.form; exact ⟨a, _, c, e⟩
  go_wp2_with fail
  have h := Worse_sett _ _ _ _ ns ss (lastF ns ss) nn x.w (hn.later x) (hs.later x) hL hN HV.out hl.out h2.out
  rw [put_last HV.out h2.out] at h
  refine h.mono ?_
  clear h
  rintro e w' ⟨v_hS2, y, rfl, rfl, hS2⟩
  replace hM := hM.later y
  replace hN := hN.later y
  replace hF := hF.later y
  replace hL := hL.later y
  replace hX := hX.later y
  replace hY := hY.later y
  replace hU := hU.later y
  replace hV := hV.later y
  replace hP := hP.later y
  replace hQ := hQ.later y
  replace hR := hR.later y
  obtain ⟨q, hq⟩ : ∃ q : Later z.w, y.w = q.w := ⟨x.step y, rfl⟩
  rw [hq] at hM hN hF hL hX hY hU hV hP hQ hR hS2 ⊢
  clear hq y x
  obtain ⟨x, rfl⟩ : ∃ x, x = q := ⟨_, rfl⟩
  obtain ⟨a_hS2, n_hS2, c_hS2, rfl⟩ : ∃ a n c, v_hS2 = .slice a n c := by obtain ⟨a, c, e⟩ := hS2.form; exact ⟨a, _, c, e⟩
  go_wp2_with fail
  have h := Ints_calls _ _ _ _ x.w hX hY
  rw [eqI_self] at h
  refine h.mono ?_
  clear h
  rintro e w' ⟨rfl, y, rfl⟩
  replace hM := hM.later y
  replace hN := hN.later y
  replace hF := hF.later y
  replace hL := hL.later y
  replace hX := hX.later y
  replace hY := hY.later y
  replace hU := hU.later y
  replace hV := hV.later y
  replace hP := hP.later y
  replace hQ := hQ.later y
  replace hR := hR.later y
  replace hS2 := hS2.later y
  obtain ⟨q, hq⟩ : ∃ q : Later z.w, y.w = q.w := ⟨x.step y, rfl⟩
  rw [hq] at hM hN hF hL hX hY hU hV hP hQ hR hS2 ⊢
  clear hq y x
  obtain ⟨x, rfl⟩ : ∃ x, x = q := ⟨_, rfl⟩
  go_wp2_with fail
  have h := Ints_calls _ _ _ _ x.w hU hV
  rw [eqI_self] at h
  refine h.mono ?_
  clear h
  rintro e w' ⟨rfl, y, rfl⟩
  replace hM := hM.later y
  replace hN := hN.later y
  replace hF := hF.later y
  replace hL := hL.later y
  replace hX := hX.later y
  replace hY := hY.later y
  replace hU := hU.later y
  replace hV := hV.later y
  replace hP := hP.later y
  replace hQ := hQ.later y
  replace hR := hR.later y
  replace hS2 := hS2.later y
  obtain ⟨q, hq⟩ : ∃ q : Later z.w, y.w = q.w := ⟨x.step y, rfl⟩
  rw [hq] at hM hN hF hL hX hY hU hV hP hQ hR hS2 ⊢
  clear hq y x
  obtain ⟨x, rfl⟩ : ∃ x, x = q := ⟨_, rfl⟩
  go_wp2_with fail
  have h := Ints_calls _ _ _ _ x.w hP hM
  rw [eqI_self] at h
  refine h.mono ?_
  clear h
  rintro e w' ⟨rfl, y, rfl⟩
  replace hM := hM.later y
  replace hN := hN.later y
  replace hF := hF.later y
  replace hL := hL.later y
  replace hX := hX.later y
  replace hY := hY.later y
  replace hU := hU.later y
  replace hV := hV.later y
  replace hP := hP.later y
  replace hQ := hQ.later y
  replace hR := hR.later y
  replace hS2 := hS2.later y
  obtain ⟨q, hq⟩ : ∃ q : Later z.w, y.w = q.w := ⟨x.step y, rfl⟩
  rw [hq] at hM hN hF hL hX hY hU hV hP hQ hR hS2 ⊢
  clear hq y x
  obtain ⟨x, rfl⟩ : ∃ x, x = q := ⟨_, rfl⟩
  go_wp2_with fail
  have h := Ints_calls _ _ _ _ x.w hQ hM
  rw [eqI_self] at h
  refine h.mono ?_
  clear h
  rintro e w' ⟨rfl, y, rfl⟩
  replace hM := hM.later y
  replace hN := hN.later y
  replace hF := hF.later y
  replace hL := hL.later y
  replace hX := hX.later y
  replace hY := hY.later y
  replace hU := hU.later y
  replace hV := hV.later y
  replace hP := hP.later y
  replace hQ := hQ.later y
  replace hR := hR.later y
  replace hS2 := hS2.later y
  obtain ⟨q, hq⟩ : ∃ q : Later z.w, y.w = q.w := ⟨x.step y, rfl⟩
  rw [hq] at hM hN hF hL hX hY hU hV hP hQ hR hS2 ⊢
  clear hq y x
  obtain ⟨x, rfl⟩ : ∃ x, x = q := ⟨_, rfl⟩
  go_wp2_with fail
  have h := Ints_calls _ _ _ _ x.w hR hF
  rw [eqI_self] at h
  refine h.mono ?_
  clear h
  rintro e w' ⟨rfl, y, rfl⟩
  replace hM := hM.later y
  replace hN := hN.later y
  replace hF := hF.later y
  replace hL := hL.later y
  replace hX := hX.later y
  replace hY := hY.later y
  replace hU := hU.later y
  replace hV := hV.later y
  replace hP := hP.later y
  replace hQ := hQ.later y
  replace hR := hR.later y
  replace hS2 := hS2.later y
  obtain ⟨q, hq⟩ : ∃ q : Later z.w, y.w = q.w := ⟨x.step y, rfl⟩
  rw [hq] at hM hN hF hL hX hY hU hV hP hQ hR hS2 ⊢
  clear hq y x
  obtain ⟨x, rfl⟩ : ∃ x, x = q := ⟨_, rfl⟩
  go_wp2_with fail
  have h := Ints_calls _ _ _ _ x.w hS2 hL
  rw [eqI_self] at h
  refine h.mono ?_
  clear h
  rintro e w' ⟨rfl, y, rfl⟩
  replace hM := hM.later y
  replace hN := hN.later y
  replace hF := hF.later y
  replace hL := hL.later y
  replace hX := hX.later y
  replace hY := hY.later y
  replace hU := hU.later y
  replace hV := hV.later y
  replace hP := hP.later y
  replace hQ := hQ.later y
  replace hR := hR.later y
  replace hS2 := hS2.later y
  obtain ⟨q, hq⟩ : ∃ q : Later z.w, y.w = q.w := ⟨x.step y, rfl⟩
  rw [hq] at hM hN hF hL hX hY hU hV hP hQ hR hS2 ⊢
  clear hq y x
  obtain ⟨x, rfl⟩ : ∃ x, x = q := ⟨_, rfl⟩
  clear hY hV hP hQ hR hS2 hF hL
  go_wp2_with fail
  have h := Settled_calls _ _ _ _ ns ss _ _ x.w (hn.later x) (hs.later x) hX hU
  rw [(put_vsett (put_sett h1.out h2.out false) (put_sett h1.out h2.out true)).2 HV.out] at h
  refine h.mono ?_
  clear h
  rintro e w' ⟨rfl, y, rfl⟩
  replace hM := hM.later y
  replace hN := hN.later y
  replace hX := hX.later y
  replace hU := hU.later y
  obtain ⟨q, hq⟩ : ∃ q : Later z.w, y.w = q.w := ⟨x.step y, rfl⟩
  rw [hq] at hM hN hX hU ⊢
  clear hq y x
  obtain ⟨x, rfl⟩ : ∃ x, x = q := ⟨_, rfl⟩
  go_wp2
  have hXs := Lib.hid (put_sett h1.out h2.out false)
  have hUs := Lib.hid (put_sett h1.out h2.out true)
  obtain ⟨X, hX0⟩ : ∃ X, putN ns mm nn false = X := ⟨_, rfl⟩
  obtain ⟨U, hU0⟩ : ∃ U, putN ns mm nn true = U := ⟨_, rfl⟩
  have HX := Lib.hid hX0
  have HU := Lib.hid hU0
  rw [hX0] at hX hXs
  rw [hU0] at hU hUs
  clear hX0 hU0
  go_loopw [29] (fun i wr => ∃ j : Nat, ∃ y : Later x.w, wr = y.w ∧ j ≤ ns.length ∧ i = .int .i64 j) (fun i _ => ns.length - (intOf i).toNat)
  case atStart => exact ⟨0, Later.self _, rfl, Nat.zero_le _, rfl⟩
  case round =>
    as_aux_lemma =>
    obtain ⟨j, y, rfl, hj, rfl⟩ := hrel
    have gB0 : y.w.cell? ⟨B, 0, none⟩ = some (.slice an ns.length cn) := ((x.step y).cell hBz).trans c0
    have gB1 : y.w.cell? ⟨B, 1, none⟩ = some (.slice aS ss.length cS) := ((x.step y).cell hBz).trans c1
    have sB : B < y.w.heap.size := Nat.lt_of_lt_of_le hBz (x.step y).size
    by_cases hlt : j < ns.length
    · have jM : j < mm.length := by rw [h1.out.1.len]; exact hlt
      have jN : j < nn.length := by rw [h2.out.1.len]; exact hlt
      have jX : j < X.length := by rw [hXs.out.1.len]; exact hlt
      have jU : j < U.length := by rw [hUs.out.1.len]; exact hlt
      have f1 := Lib.hid (put_one (ns := ns) (m := mm) (l := nn) false jM)
      have f2 := Lib.hid (put_one (ns := ns) (m := mm) (l := nn) true jM)
      rw [HX.out] at f1
      rw [HU.out] at f2
      have q1 := put_better h1.out h2.out hlt
      have q2 := put_worse h1.out h2.out hlt
      rw [HX.out] at q1
      rw [HU.out] at q2
      obtain ⟨bM, oM, cM, e, hcM, hbM, hgM⟩ := hM.at jM
      cases e
      have gM := (y.cell hbM).trans (hgM j jM)
      have sM : bM < y.w.heap.size := Nat.lt_of_lt_of_le hbM y.size
      clear hgM
      obtain ⟨bN, oN, cN, e, hcN, hbN, hgN⟩ := hN.at jN
      cases e
      have gN := (y.cell hbN).trans (hgN j jN)
      have sN : bN < y.w.heap.size := Nat.lt_of_lt_of_le hbN y.size
      clear hgN
      obtain ⟨bX, oX, cX, e, hcX, hbX, hgX⟩ := hX.at jX
      cases e
      have gX := (y.cell hbX).trans (hgX j jX)
      have sX : bX < y.w.heap.size := Nat.lt_of_lt_of_le hbX y.size
      clear hgX
      obtain ⟨bU, oU, cU, e, hcU, hbU, hgU⟩ := hU.at jU
      cases e
      have gU := (y.cell hbU).trans (hgU j jU)
      have sU : bU < y.w.heap.size := Nat.lt_of_lt_of_le hbU y.size
      clear hgU
      obtain ⟨bn, on, cn', fn, e, hcpn, hbn, hcn⟩ := hn.at hlt
      cases e
      obtain ⟨gn0, hrj⟩ := hcn j hlt
      have gn : y.w.cell? ⟨bn, on + j, none⟩ = some (fn j) := ((x.step y).cell hbn).trans gn0
      have sn : bn < y.w.heap.size := Nat.lt_of_lt_of_le hbn (x.step y).size
      have R1 := fun (u : Later y.w) => lrather_calls (fn j) (row ns j) (nth mm j) (nth X j) u.w (((hrj.later x).later y).later u)
      have R2 := fun (u : Later y.w) => lrather_calls (fn j) (row ns j) (nth nn j) (nth X j) u.w (((hrj.later x).later y).later u)
      have R3 := fun (u : Later y.w) => lrather_calls (fn j) (row ns j) (nth U j) (nth mm j) u.w (((hrj.later x).later y).later u)
      have R4 := fun (u : Later y.w) => lrather_calls (fn j) (row ns j) (nth U j) (nth nn j) u.w (((hrj.later x).later y).later u)
      rw [q1.1] at R1
      rw [q1.2] at R2
      rw [q2.1] at R3
      rw [q2.2] at R4
      have R1 := Lib.hid R1
      have R2 := Lib.hid R2
      have R3 := Lib.hid R3
      have R4 := Lib.hid R4
      clear q1 q2 hcn gn0
      have d3 : (nth X j != nth mm j) = true → (nth X j != nth nn j) = false := fun h => by
        rcases f1.out with e | e
        · rw [e] at h; simp at h
        · rw [e]; simp
      have d4 : (nth U j != nth mm j) = true → (nth U j != nth nn j) = false := fun h => by
        rcases f2.out with e | e
        · rw [e] at h; simp at h
        · rw [e]; simp
      have D3 := Lib.hid d3
      have D4 := Lib.hid d4
      clear d3 d4
      cases d1 : (nth X j != nth mm j)
      · cases d2 : (nth U j != nth mm j)
        · as_aux_lemma =>
          go_wp2
          try simp only [List.append_eq, List.cons_append, List.nil_append]
          refine region_later_lit (by kernel_rfl) (lexB_tab tab22 (by kernel_rfl) (by kernel_rfl) (by kernel_rfl)) ?_
          repeat (first | simp only [d1] | simp only [d2] | go_big_quiet_step (first
               | (go_at_call 44; first | (with_reducible exact Later.quiet_same _ (R1.out _)) | (with_reducible exact Later.quiet_same _ (R2.out _)) | (with_reducible exact Later.quiet_same _ (R3.out _)) | (with_reducible exact Later.quiet_same _ (R4.out _)))))
          refine wpQuiet_nil ?_
          intro u
          go_wp2
          go_roundw
          case rel => exact ⟨j + 1, y.step u, rfl, by omega, by go_num⟩
          case measure => simp [intOf]; omega
        · as_aux_lemma =>
          have d6 := D4.out d2
          go_wp2
          try simp only [List.append_eq, List.cons_append, List.nil_append]
          refine region_later_lit (by kernel_rfl) (lexB_tab tab22 (by kernel_rfl) (by kernel_rfl) (by kernel_rfl)) ?_
          repeat (first | simp only [d1] | simp only [d2] | simp only [d6] | go_big_quiet_step (first
               | (go_at_call 44; first | (with_reducible exact Later.quiet_same _ (R1.out _)) | (with_reducible exact Later.quiet_same _ (R2.out _)) | (with_reducible exact Later.quiet_same _ (R3.out _)) | (with_reducible exact Later.quiet_same _ (R4.out _)))))
          refine wpQuiet_nil ?_
          intro u
          go_wp2
          go_roundw
          case rel => exact ⟨j + 1, y.step u, rfl, by omega, by go_num⟩
          case measure => simp [intOf]; omega
      · have d5 := D3.out d1
        cases d2 : (nth U j != nth mm j)
        · as_aux_lemma =>
          go_wp2
          try simp only [List.append_eq, List.cons_append, List.nil_append]
          refine region_later_lit (by kernel_rfl) (lexB_tab tab22 (by kernel_rfl) (by kernel_rfl) (by kernel_rfl)) ?_
          repeat (first | simp only [d1] | simp only [d5] | simp only [d2] | go_big_quiet_step (first
               | (go_at_call 44; first | (with_reducible exact Later.quiet_same _ (R1.out _)) | (with_reducible exact Later.quiet_same _ (R2.out _)) | (with_reducible exact Later.quiet_same _ (R3.out _)) | (with_reducible exact Later.quiet_same _ (R4.out _)))))
          refine wpQuiet_nil ?_
          intro u
          go_wp2
          go_roundw
          case rel => exact ⟨j + 1, y.step u, rfl, by omega, by go_num⟩
          case measure => simp [intOf]; omega
        · as_aux_lemma =>
          have d6 := D4.out d2
          go_wp2
          try simp only [List.append_eq, List.cons_append, List.nil_append]
          refine region_later_lit (by kernel_rfl) (lexB_tab tab22 (by kernel_rfl) (by kernel_rfl) (by kernel_rfl)) ?_
          repeat (first | simp only [d1] | simp only [d5] | simp only [d2] | simp only [d6] | go_big_quiet_step (first
               | (go_at_call 44; first | (with_reducible exact Later.quiet_same _ (R1.out _)) | (with_reducible exact Later.quiet_same _ (R2.out _)) | (with_reducible exact Later.quiet_same _ (R3.out _)) | (with_reducible exact Later.quiet_same _ (R4.out _)))))
          refine wpQuiet_nil ?_
          intro u
          go_wp2
          go_roundw
          case rel => exact ⟨j + 1, y.step u, rfl, by omega, by go_num⟩
          case measure => simp [intOf]; omega
    · go_wp2
      go_loopw [30] (fun i wr => ∃ s : Nat, ∃ y : Later x.w, wr = y.w ∧ s ≤ ss.length ∧ i = .int .i64 s) (fun i _ => ss.length - (intOf i).toNat)
      case atStart => exact ⟨0, y, rfl, Nat.zero_le _, rfl⟩
      case round =>
        clear gB0 gB1 sB y
        obtain ⟨s, y, rfl, hs', rfl⟩ := hrel
        have gB0 : y.w.cell? ⟨B, 0, none⟩ = some (.slice an ns.length cn) := ((x.step y).cell hBz).trans c0
        have gB1 : y.w.cell? ⟨B, 1, none⟩ = some (.slice aS ss.length cS) := ((x.step y).cell hBz).trans c1
        have sB : B < y.w.heap.size := Nat.lt_of_lt_of_le hBz (x.step y).size
        by_cases hlt3 : s < ss.length
        · as_aux_lemma =>
          obtain ⟨bn, on, cn', fn, e, hcpn, hbn, hcn⟩ := hs.at hlt3
          cases e
          obtain ⟨gn0, hrj⟩ := hcn s hlt3
          have gn : y.w.cell? ⟨bn, on + s, none⟩ = some (fn s) := ((x.step y).cell hbn).trans gn0
          have sn : bn < y.w.heap.size := Nat.lt_of_lt_of_le hbn (x.step y).size
          have p1 := Lib.hid (Place_calls _ X (s : Int) y.w (hX.later y))
          have p2 := Lib.hid (Place_calls _ mm (s : Int) y.w (hM.later y))
          have p3 := Lib.hid (Place_calls _ nn (s : Int) y.w (hN.later y))
          have q := put_star h1.out h2.out s
          rw [HX.out] at q
          have R1 := lrather_calls (fn s) (row ss s) (plc X s) (plc mm s) y.w ((hrj.later x).later y)
          have R2 := lrather_calls (fn s) (row ss s) (plc X s) (plc nn s) y.w ((hrj.later x).later y)
          rw [q.1] at R1
          rw [q.2] at R2
          have R1 := Lib.hid R1
          have R2 := Lib.hid R2
          clear hcn gn0 q
          go_wp2_with fail
          refine p1.out.mono ?_
          rintro e w' ⟨rfl, rfl⟩
          go_wp2_with fail
          refine p2.out.mono ?_
          rintro e w' ⟨rfl, rfl⟩
          go_wp2_with fail
          refine p3.out.mono ?_
          rintro e w' ⟨rfl, rfl⟩
          go_wp2_with fail
          refine R1.out.mono ?_
          rintro e w' ⟨rfl, rfl⟩
          go_wp2_with fail
          refine R2.out.mono ?_
          rintro e w' ⟨rfl, rfl⟩
          go_wp2
          go_roundw
          case rel => exact ⟨s + 1, y, rfl, by omega, by go_num⟩
          case measure => simp [intOf]; omega
        · go_wp2_with fail
          refine (Works_calls y.w).mono ?_
          rintro e w' ⟨rfl, u, rfl⟩
          go_wp2
          go_ret
          exact ⟨rfl, ((z.step x).step y).step u, rfl⟩
end Go.Proofs.Ytieaibebnkdmhaa
