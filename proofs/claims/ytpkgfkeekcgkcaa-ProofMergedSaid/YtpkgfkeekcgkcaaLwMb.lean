import Derived.Test.YtpkgfkeekcgkcaaLwM
/-  Merging: marks that do not contradict each other. -/
namespace Go.Proofs.Ytpkgfkeekcgkcaa
open Go.RowKit
set_option maxRecDepth 100000 in
set_option maxHeartbeats 16000000 in
theorem ProofMerged_off (l : List UInt8) (sv av : Value) (st : List Int) (ad : List (List UInt8)) (sw aw : Value) (st2 : List Int) (ad2 : List (List UInt8)) (su au : Value) (st3 : List Int) (ad3 : List (List UInt8)) (W : World) (hm : Mks W sv av st ad) (hm2 : Mks W sw aw st2 ad2) (hm3 : Mks W su au st3 ad3) (f1 : fineM l st ad = true) (f2 : fineM l st2 ad2 = true) (f3 : fineM l st3 ad3 = true) (hc : ¬ 0 ≤ clashN ad ad2) :
    Calls Try.prog 12 #[.string ⟨l.toArray⟩, .agg #[sv, av], .agg #[sw, aw], .agg #[su, au]] W (Gives (.bool true) W) := by
  have S : Ins W [] := Ins.nil _
  have HC0 := Lib.hid hc
  clear hc
  obtain ⟨sx, ns, cs, rfl⟩ : ∃ a n c, sv = .slice a n c := by obtain ⟨a, c, e⟩ := hm.s.form; exact ⟨a, _, c, e⟩
  obtain ⟨aa, na, ca, rfl⟩ : ∃ a n c, av = .slice a n c := by obtain ⟨a, c, e⟩ := hm.a.form; exact ⟨a, _, c, e⟩
  have HS := Lib.hid (show ns = st.length by obtain ⟨a, c, e⟩ := hm.s.form; cases e; rfl)
  have HA := Lib.hid (show na = ad.length by obtain ⟨a, c, e⟩ := hm.a.form; cases e; rfl)
  have hsl : ns ≤ 9007199254740992 := by rw [HS.out]; exact hm.s.1
  have hal : na ≤ 9007199254740992 := by rw [HA.out]; exact hm.a.1
  obtain ⟨sx2, ns2, cs2, rfl⟩ : ∃ a n c, sw = .slice a n c := by obtain ⟨a, c, e⟩ := hm2.s.form; exact ⟨a, _, c, e⟩
  obtain ⟨aa2, na2, ca2, rfl⟩ : ∃ a n c, aw = .slice a n c := by obtain ⟨a, c, e⟩ := hm2.a.form; exact ⟨a, _, c, e⟩
  have HS2 := Lib.hid (show ns2 = st2.length by obtain ⟨a, c, e⟩ := hm2.s.form; cases e; rfl)
  have HA2 := Lib.hid (show na2 = ad2.length by obtain ⟨a, c, e⟩ := hm2.a.form; cases e; rfl)
  have hsl2 : ns2 ≤ 9007199254740992 := by rw [HS2.out]; exact hm2.s.1
  have hal2 : na2 ≤ 9007199254740992 := by rw [HA2.out]; exact hm2.a.1
  obtain ⟨sx3, ns3, cs3, rfl⟩ : ∃ a n c, su = .slice a n c := by obtain ⟨a, c, e⟩ := hm3.s.form; exact ⟨a, _, c, e⟩
  obtain ⟨aa3, na3, ca3, rfl⟩ : ∃ a n c, au = .slice a n c := by obtain ⟨a, c, e⟩ := hm3.a.form; exact ⟨a, _, c, e⟩
  have HS3 := Lib.hid (show ns3 = st3.length by obtain ⟨a, c, e⟩ := hm3.s.form; cases e; rfl)
  have HA3 := Lib.hid (show na3 = ad3.length by obtain ⟨a, c, e⟩ := hm3.a.form; cases e; rfl)
  have hsl3 : ns3 ≤ 9007199254740992 := by rw [HS3.out]; exact hm3.s.1
  have hal3 : na3 ≤ 9007199254740992 := by rw [HA3.out]; exact hm3.a.1
  have HX := Lib.hid f1
  have HX2 := Lib.hid f2
  have HX3 := Lib.hid f3
  clear f1 f2 f3
  go_enter Try.func12, Try.ntmps12
  go_wp2_with fail
  obtain ⟨B1, hb⟩ : ∃ b, b = W.heap.size := ⟨_, rfl⟩
  have l1 : Lin (W.alloc (.cells #[.slice sx ns cs, .slice aa na ca] 25)) B1 25 [.slice sx ns cs, .slice aa na ca] := by rw [hb]; exact Lin.new _ _ [.slice sx ns cs, .slice aa na ca]
  replace S := S.later (Later.new _ (.cells #[.slice sx ns cs, .slice aa na ca] 25))
  rw [Later.new_w] at S
  replace hm := hm.later (Later.new _ (.cells #[.slice sx ns cs, .slice aa na ca] 25))
  rw [Later.new_w] at hm
  replace hm2 := hm2.later (Later.new _ (.cells #[.slice sx ns cs, .slice aa na ca] 25))
  rw [Later.new_w] at hm2
  replace hm3 := hm3.later (Later.new _ (.cells #[.slice sx ns cs, .slice aa na ca] 25))
  rw [Later.new_w] at hm3
  have hsz : (W.alloc (.cells #[.slice sx ns cs, .slice aa na ca] 25)).heap.size = B1 + 1 := by rw [hb]; simp
  obtain ⟨Y2, hZ⟩ : ∃ Z : Later W, Z.w = W.alloc (.cells #[.slice sx ns cs, .slice aa na ca] 25) := ⟨Later.new _ _, rfl⟩
  rw [← hZ] at S hsz hm hm2 hm3 l1 ⊢
  clear hZ
  rw [← hb]
  clear hb
  try rw [← hsz]
  clear hsz
  obtain ⟨B3, hb⟩ : ∃ b, b = Y2.w.heap.size := ⟨_, rfl⟩
  have l3 : Lin (Y2.w.alloc (.cells #[.slice sx2 ns2 cs2, .slice aa2 na2 ca2] 25)) B3 25 [.slice sx2 ns2 cs2, .slice aa2 na2 ca2] := by rw [hb]; exact Lin.new _ _ [.slice sx2 ns2 cs2, .slice aa2 na2 ca2]
  replace S := S.later (Later.new _ (.cells #[.slice sx2 ns2 cs2, .slice aa2 na2 ca2] 25))
  rw [Later.new_w] at S
  replace hm := hm.later (Later.new _ (.cells #[.slice sx2 ns2 cs2, .slice aa2 na2 ca2] 25))
  rw [Later.new_w] at hm
  replace hm2 := hm2.later (Later.new _ (.cells #[.slice sx2 ns2 cs2, .slice aa2 na2 ca2] 25))
  rw [Later.new_w] at hm2
  replace hm3 := hm3.later (Later.new _ (.cells #[.slice sx2 ns2 cs2, .slice aa2 na2 ca2] 25))
  rw [Later.new_w] at hm3
  replace l1 := l1.later (Later.new _ (.cells #[.slice sx2 ns2 cs2, .slice aa2 na2 ca2] 25))
  rw [Later.new_w] at l1
  have hsz : (Y2.w.alloc (.cells #[.slice sx2 ns2 cs2, .slice aa2 na2 ca2] 25)).heap.size = B3 + 1 := by rw [hb]; simp
  obtain ⟨Y4, hZ⟩ : ∃ Z : Later W, Z.w = Y2.w.alloc (.cells #[.slice sx2 ns2 cs2, .slice aa2 na2 ca2] 25) := ⟨Y2.step (Later.new _ _), rfl⟩
  rw [← hZ] at S hsz hm hm2 hm3 l1 l3 ⊢
  clear hZ
  rw [← hb]
  clear hb
  try rw [← hsz]
  clear hsz
  obtain ⟨B5, hb⟩ : ∃ b, b = Y4.w.heap.size := ⟨_, rfl⟩
  have l5 : Lin (Y4.w.alloc (.cells #[.slice sx3 ns3 cs3, .slice aa3 na3 ca3] 25)) B5 25 [.slice sx3 ns3 cs3, .slice aa3 na3 ca3] := by rw [hb]; exact Lin.new _ _ [.slice sx3 ns3 cs3, .slice aa3 na3 ca3]
  replace S := S.later (Later.new _ (.cells #[.slice sx3 ns3 cs3, .slice aa3 na3 ca3] 25))
  rw [Later.new_w] at S
  replace hm := hm.later (Later.new _ (.cells #[.slice sx3 ns3 cs3, .slice aa3 na3 ca3] 25))
  rw [Later.new_w] at hm
  replace hm2 := hm2.later (Later.new _ (.cells #[.slice sx3 ns3 cs3, .slice aa3 na3 ca3] 25))
  rw [Later.new_w] at hm2
  replace hm3 := hm3.later (Later.new _ (.cells #[.slice sx3 ns3 cs3, .slice aa3 na3 ca3] 25))
  rw [Later.new_w] at hm3
  replace l1 := l1.later (Later.new _ (.cells #[.slice sx3 ns3 cs3, .slice aa3 na3 ca3] 25))
  rw [Later.new_w] at l1
  replace l3 := l3.later (Later.new _ (.cells #[.slice sx3 ns3 cs3, .slice aa3 na3 ca3] 25))
  rw [Later.new_w] at l3
  have hsz : (Y4.w.alloc (.cells #[.slice sx3 ns3 cs3, .slice aa3 na3 ca3] 25)).heap.size = B5 + 1 := by rw [hb]; simp
  obtain ⟨Y6, hZ⟩ : ∃ Z : Later W, Z.w = Y4.w.alloc (.cells #[.slice sx3 ns3 cs3, .slice aa3 na3 ca3] 25) := ⟨Y4.step (Later.new _ _), rfl⟩
  rw [← hZ] at S hsz hm hm2 hm3 l1 l3 l5 ⊢
  clear hZ
  rw [← hb]
  clear hb
  try rw [← hsz]
  clear hsz
  have q0_0 := l1.cell (k := 0) rfl
  have q0_1 := l1.cell (k := 1) rfl
  have q0_l := l1.lt
  have q1_0 := l3.cell (k := 0) rfl
  have q1_1 := l3.cell (k := 1) rfl
  have q1_l := l3.lt
  have q2_0 := l5.cell (k := 0) rfl
  have q2_1 := l5.cell (k := 1) rfl
  have q2_l := l5.lt
  go_wp2_with fail
  clear q0_0 q0_1 q0_l
  clear q1_0 q1_1 q1_l
  clear q2_0 q2_1 q2_l
  refine (fine_calls l _ _ st ad _ hm).mono ?_
  rintro e w' ⟨rfl, y, rfl⟩
  rw [HX.out]
  replace hm := hm.later y
  replace hm2 := hm2.later y
  replace hm3 := hm3.later y
  replace l1 := l1.later y
  replace l3 := l3.later y
  replace l5 := l5.later y
  replace S := S.later y
  obtain ⟨Y7, hZ⟩ : ∃ Z : Later W, Z.w = y.w := ⟨Y6.step (y), rfl⟩
  rw [← hZ] at S hm hm2 hm3 l1 l3 l5 ⊢
  clear hZ
  clear y
  have q0_0 := l1.cell (k := 0) rfl
  have q0_1 := l1.cell (k := 1) rfl
  have q0_l := l1.lt
  have q1_0 := l3.cell (k := 0) rfl
  have q1_1 := l3.cell (k := 1) rfl
  have q1_l := l3.lt
  have q2_0 := l5.cell (k := 0) rfl
  have q2_1 := l5.cell (k := 1) rfl
  have q2_l := l5.lt
  go_wp2_with fail
  clear q0_0 q0_1 q0_l
  clear q1_0 q1_1 q1_l
  clear q2_0 q2_1 q2_l
  refine (fine_calls l _ _ st2 ad2 _ hm2).mono ?_
  rintro e w' ⟨rfl, y, rfl⟩
  rw [HX2.out]
  replace hm := hm.later y
  replace hm2 := hm2.later y
  replace hm3 := hm3.later y
  replace l1 := l1.later y
  replace l3 := l3.later y
  replace l5 := l5.later y
  replace S := S.later y
  obtain ⟨Y8, hZ⟩ : ∃ Z : Later W, Z.w = y.w := ⟨Y7.step (y), rfl⟩
  rw [← hZ] at S hm hm2 hm3 l1 l3 l5 ⊢
  clear hZ
  clear y
  have q0_0 := l1.cell (k := 0) rfl
  have q0_1 := l1.cell (k := 1) rfl
  have q0_l := l1.lt
  have q1_0 := l3.cell (k := 0) rfl
  have q1_1 := l3.cell (k := 1) rfl
  have q1_l := l3.lt
  have q2_0 := l5.cell (k := 0) rfl
  have q2_1 := l5.cell (k := 1) rfl
  have q2_l := l5.lt
  go_wp2_with fail
  clear q0_0 q0_1 q0_l
  clear q1_0 q1_1 q1_l
  clear q2_0 q2_1 q2_l
  refine (fine_calls l _ _ st3 ad3 _ hm3).mono ?_
  rintro e w' ⟨rfl, y, rfl⟩
  rw [HX3.out]
  replace hm := hm.later y
  replace hm2 := hm2.later y
  replace hm3 := hm3.later y
  replace l1 := l1.later y
  replace l3 := l3.later y
  replace l5 := l5.later y
  replace S := S.later y
  obtain ⟨Y9, hZ⟩ : ∃ Z : Later W, Z.w = y.w := ⟨Y8.step (y), rfl⟩
  rw [← hZ] at S hm hm2 hm3 l1 l3 l5 ⊢
  clear hZ
  clear y
  have ok1 := Lib.hid (fine_ok HX.out)
  have ok2 := Lib.hid (fine_ok HX2.out)
  have ok3 := Lib.hid (fine_ok HX3.out)
  clear HX HX2 HX3
  obtain ⟨n, hn⟩ : ∃ n, l.length = n := ⟨_, rfl⟩
  have hn12 : n ≤ 12 := by rw [← hn]; exact ok1.out.l12
  have HN := Lib.hid hn
  have hsz : (⟨l.toArray⟩ : ByteArray).size = n := by rw [str_size]; exact hn
  clear hn
  obtain ⟨zs, hzs⟩ : ∃ zs : List (List UInt8), List.replicate (l.length + 1) [] = zs := ⟨_, rfl⟩
  have HZA := Lib.hid (show marksA l.length (-1) [] = zs by rw [marksA, if_neg (by omega), hzs])
  have hz := merge_none ok1.out
  rw [hzs] at hz
  have HMZ := Lib.hid hz
  have HZL := Lib.hid (show zs.length = l.length + 1 by rw [← hzs, List.length_replicate])
  clear hzs hz
  have HMS := Lib.hid (merge_self ok1.out)
  have HSM := Lib.hid sameM_self
  have hc : ¬ 0 ≤ clashN ad ad2 := by have := HC0.out; omega
  clear HC0
  have ha1 := merge_off ok1.out ok2.out hc
  have hb1 := merge_off ok2.out ok1.out (by rw [clashN_comm (by rw [ok2.out.al, ok1.out.al])]; exact hc)
  have ho := off_of hc
  rw [ok1.out.al] at ho
  rw [mgS_comm st2 st, mgA_comm ho.comm] at hb1
  have okA := okm_mg ok1.out ok2.out
  have hmo := mg_off ok1.out ok2.out hc
  have h3 := mg_three ok1.out ok2.out (ad3 := ad3) hc
  have h4 := mg_assoc ok1.out ok2.out ok3.out hc
  have hhas : ∀ x : Nat, x < l.length → hasB (mgS st st2 l.length) (x : Int) = (hasB st (x : Int) || hasB st2 (x : Int)) := fun x hx => mgS_has _ _ hx
  obtain ⟨NA, hNA⟩ : ∃ N, (mgS st st2 l.length).length + cn (mgA ad ad2 (l.length + 1)) (l.length + 1) = N := ⟨_, rfl⟩
  obtain ⟨NB, hNB⟩ : ∃ N, st.length + cn ad (l.length + 1) = N := ⟨_, rfl⟩
  obtain ⟨NC, hNC⟩ : ∃ N, st2.length + cn ad2 (l.length + 1) = N := ⟨_, rfl⟩
  obtain ⟨u1, u2, u3⟩ := mg_num ok1.out ok2.out hc hNA hNB hNC
  have hb9 : NB ≤ 1000 := by
    rw [← hNB]
    have h1 := ok1.out.st_le
    have h2 := ok1.out.l12
    have h3 := ok1.out.cn_len (l.length + 1)
    omega
  have hc9 : NC ≤ 1000 := by
    rw [← hNC]
    have h1 := ok2.out.st_le
    have h2 := ok2.out.l12
    have h3 := ok2.out.cn_len (l.length + 1)
    omega
  obtain ⟨S1, hS1⟩ : ∃ x, mgS st st2 l.length = x := ⟨_, rfl⟩
  obtain ⟨A1, hA1⟩ : ∃ x, mgA ad ad2 (l.length + 1) = x := ⟨_, rfl⟩
  rw [hS1, hA1] at ha1 hb1 okA hNA
  rw [hA1] at h3
  rw [hS1, hA1] at h4
  rw [hS1] at hhas
  have HA1 := Lib.hid ha1
  have HB1 := Lib.hid hb1
  have HOA := Lib.hid okA
  have HFA := Lib.hid okA.fine
  have HCL := Lib.hid hmo
  have HH3 := Lib.hid h3
  have HH4 := Lib.hid h4
  have HHS := Lib.hid hhas
  have HNA := Lib.hid hNA
  have HNB := Lib.hid hNB
  have HNC := Lib.hid hNC
  have d1 : decide (NA < NB) = false := decide_eq_false (by omega)
  have d2 : decide (NA < NC) = false := decide_eq_false (by omega)
  have d3 : decide (NB + NC < NA) = false := decide_eq_false (by omega)
  clear ha1 hb1 ho okA hmo h3 h4 hhas hNA hNB hNC hS1 hA1 hc
  have q0_0 := l1.cell (k := 0) rfl
  have q0_1 := l1.cell (k := 1) rfl
  have q0_l := l1.lt
  have q1_0 := l3.cell (k := 0) rfl
  have q1_1 := l3.cell (k := 1) rfl
  have q1_l := l3.lt
  go_wp2_with fail
  clear q0_0 q0_1 q0_l
  clear q1_0 q1_1 q1_l
  refine (Merge_calls l _ _ st ad _ _ st2 ad2 _ hm hm2).mono ?_
  rintro e w' ⟨sv, av, y, rfl, rfl, hmn⟩
  rw [HA1.out.2.2]
  rw [HA1.out.1, HA1.out.2.1] at hmn
  have hma := hmn
  clear hmn
  obtain ⟨sxa, nsa, csa, rfl⟩ : ∃ a n c, sv = Value.slice a n c := by obtain ⟨a, c, e⟩ := hma.s.form; exact ⟨a, _, c, e⟩
  obtain ⟨aaa, naa, caa, rfl⟩ : ∃ a n c, av = Value.slice a n c := by obtain ⟨a, c, e⟩ := hma.a.form; exact ⟨a, _, c, e⟩
  replace hm := hm.later y
  replace hm2 := hm2.later y
  replace hm3 := hm3.later y
  replace l1 := l1.later y
  replace l3 := l3.later y
  replace l5 := l5.later y
  replace S := S.later y
  obtain ⟨Y10, hZ⟩ : ∃ Z : Later W, Z.w = y.w := ⟨Y9.step (y), rfl⟩
  rw [← hZ] at S hm hm2 hm3 l1 l3 l5 hma ⊢
  clear hZ
  clear y
  have q0_0 := l1.cell (k := 0) rfl
  have q0_1 := l1.cell (k := 1) rfl
  have q0_l := l1.lt
  have q1_0 := l3.cell (k := 0) rfl
  have q1_1 := l3.cell (k := 1) rfl
  have q1_l := l3.lt
  go_wp2_with fail
  clear q0_0 q0_1 q0_l
  clear q1_0 q1_1 q1_l
  obtain ⟨B11, hb⟩ : ∃ b, b = Y10.w.heap.size := ⟨_, rfl⟩
  have l11 : Lin (Y10.w.alloc (.cells #[.slice sxa nsa csa, .slice aaa naa caa] 25)) B11 25 [.slice sxa nsa csa, .slice aaa naa caa] := by rw [hb]; exact Lin.new _ _ [.slice sxa nsa csa, .slice aaa naa caa]
  replace S := S.later (Later.new _ (.cells #[.slice sxa nsa csa, .slice aaa naa caa] 25))
  rw [Later.new_w] at S
  replace hm := hm.later (Later.new _ (.cells #[.slice sxa nsa csa, .slice aaa naa caa] 25))
  rw [Later.new_w] at hm
  replace hm2 := hm2.later (Later.new _ (.cells #[.slice sxa nsa csa, .slice aaa naa caa] 25))
  rw [Later.new_w] at hm2
  replace hm3 := hm3.later (Later.new _ (.cells #[.slice sxa nsa csa, .slice aaa naa caa] 25))
  rw [Later.new_w] at hm3
  replace l1 := l1.later (Later.new _ (.cells #[.slice sxa nsa csa, .slice aaa naa caa] 25))
  rw [Later.new_w] at l1
  replace l3 := l3.later (Later.new _ (.cells #[.slice sxa nsa csa, .slice aaa naa caa] 25))
  rw [Later.new_w] at l3
  replace l5 := l5.later (Later.new _ (.cells #[.slice sxa nsa csa, .slice aaa naa caa] 25))
  rw [Later.new_w] at l5
  replace hma := hma.later (Later.new _ (.cells #[.slice sxa nsa csa, .slice aaa naa caa] 25))
  rw [Later.new_w] at hma
  have hsz : (Y10.w.alloc (.cells #[.slice sxa nsa csa, .slice aaa naa caa] 25)).heap.size = B11 + 1 := by rw [hb]; simp
  obtain ⟨Y12, hZ⟩ : ∃ Z : Later W, Z.w = Y10.w.alloc (.cells #[.slice sxa nsa csa, .slice aaa naa caa] 25) := ⟨Y10.step (Later.new _ _), rfl⟩
  rw [← hZ] at S hsz hm hm2 hm3 l1 l3 l5 hma l11 ⊢
  clear hZ
  rw [← hb]
  clear hb
  try rw [← hsz]
  clear hsz
  refine (Merge_calls l _ _ st2 ad2 _ _ st ad _ hm2 hm).mono ?_
  rintro e w' ⟨sv, av, y, rfl, rfl, hmn⟩
  rw [HB1.out.2.2]
  rw [HB1.out.1, HB1.out.2.1] at hmn
  have hmb := hmn
  clear hmn
  obtain ⟨sxb, nsb, csb, rfl⟩ : ∃ a n c, sv = Value.slice a n c := by obtain ⟨a, c, e⟩ := hmb.s.form; exact ⟨a, _, c, e⟩
  obtain ⟨aab, nab, cab, rfl⟩ : ∃ a n c, av = Value.slice a n c := by obtain ⟨a, c, e⟩ := hmb.a.form; exact ⟨a, _, c, e⟩
  replace hm := hm.later y
  replace hm2 := hm2.later y
  replace hm3 := hm3.later y
  replace l1 := l1.later y
  replace l3 := l3.later y
  replace l5 := l5.later y
  replace hma := hma.later y
  replace l11 := l11.later y
  replace S := S.later y
  obtain ⟨Y13, hZ⟩ : ∃ Z : Later W, Z.w = y.w := ⟨Y12.step (y), rfl⟩
  rw [← hZ] at S hm hm2 hm3 l1 l3 l5 hma l11 hmb ⊢
  clear hZ
  clear y
  have q0_0 := l1.cell (k := 0) rfl
  have q0_1 := l1.cell (k := 1) rfl
  have q0_l := l1.lt
  go_wp2_with fail
  clear q0_0 q0_1 q0_l
  obtain ⟨B14, hb⟩ : ∃ b, b = Y13.w.heap.size := ⟨_, rfl⟩
  have l14 : Lin (Y13.w.alloc (.cells #[.slice sxb nsb csb, .slice aab nab cab] 25)) B14 25 [.slice sxb nsb csb, .slice aab nab cab] := by rw [hb]; exact Lin.new _ _ [.slice sxb nsb csb, .slice aab nab cab]
  replace S := S.later (Later.new _ (.cells #[.slice sxb nsb csb, .slice aab nab cab] 25))
  rw [Later.new_w] at S
  replace hm := hm.later (Later.new _ (.cells #[.slice sxb nsb csb, .slice aab nab cab] 25))
  rw [Later.new_w] at hm
  replace hm2 := hm2.later (Later.new _ (.cells #[.slice sxb nsb csb, .slice aab nab cab] 25))
  rw [Later.new_w] at hm2
  replace hm3 := hm3.later (Later.new _ (.cells #[.slice sxb nsb csb, .slice aab nab cab] 25))
  rw [Later.new_w] at hm3
  replace l1 := l1.later (Later.new _ (.cells #[.slice sxb nsb csb, .slice aab nab cab] 25))
  rw [Later.new_w] at l1
  replace l3 := l3.later (Later.new _ (.cells #[.slice sxb nsb csb, .slice aab nab cab] 25))
  rw [Later.new_w] at l3
  replace l5 := l5.later (Later.new _ (.cells #[.slice sxb nsb csb, .slice aab nab cab] 25))
  rw [Later.new_w] at l5
  replace hma := hma.later (Later.new _ (.cells #[.slice sxb nsb csb, .slice aab nab cab] 25))
  rw [Later.new_w] at hma
  replace l11 := l11.later (Later.new _ (.cells #[.slice sxb nsb csb, .slice aab nab cab] 25))
  rw [Later.new_w] at l11
  replace hmb := hmb.later (Later.new _ (.cells #[.slice sxb nsb csb, .slice aab nab cab] 25))
  rw [Later.new_w] at hmb
  have hsz : (Y13.w.alloc (.cells #[.slice sxb nsb csb, .slice aab nab cab] 25)).heap.size = B14 + 1 := by rw [hb]; simp
  obtain ⟨Y15, hZ⟩ : ∃ Z : Later W, Z.w = Y13.w.alloc (.cells #[.slice sxb nsb csb, .slice aab nab cab] 25) := ⟨Y13.step (Later.new _ _), rfl⟩
  rw [← hZ] at S hsz hm hm2 hm3 l1 l3 l5 hma l11 hmb l14 ⊢
  clear hZ
  rw [← hb]
  clear hb
  try rw [← hsz]
  clear hsz
  refine (Merge_calls l _ _ st ad _ _ st ad _ hm hm).mono ?_
  rintro e w' ⟨sv, av, y, rfl, rfl, hmn⟩
  rw [HMS.out.2.2]
  rw [HMS.out.1, HMS.out.2.1] at hmn
  have hmc := hmn
  clear hmn
  obtain ⟨sxc, nsc, csc, rfl⟩ : ∃ a n c, sv = Value.slice a n c := by obtain ⟨a, c, e⟩ := hmc.s.form; exact ⟨a, _, c, e⟩
  obtain ⟨aac, nac, cac, rfl⟩ : ∃ a n c, av = Value.slice a n c := by obtain ⟨a, c, e⟩ := hmc.a.form; exact ⟨a, _, c, e⟩
  replace hm := hm.later y
  replace hm2 := hm2.later y
  replace hm3 := hm3.later y
  replace l1 := l1.later y
  replace l3 := l3.later y
  replace l5 := l5.later y
  replace hma := hma.later y
  replace l11 := l11.later y
  replace hmb := hmb.later y
  replace l14 := l14.later y
  replace S := S.later y
  obtain ⟨Y16, hZ⟩ : ∃ Z : Later W, Z.w = y.w := ⟨Y15.step (y), rfl⟩
  rw [← hZ] at S hm hm2 hm3 l1 l3 l5 hma l11 hmb l14 hmc ⊢
  clear hZ
  clear y
  go_wp2
  obtain ⟨B17, hb⟩ : ∃ b, b = Y16.w.heap.size := ⟨_, rfl⟩
  have l17 : Lin (Y16.w.alloc (.cells #[.slice sxc nsc csc, .slice aac nac cac] 25)) B17 25 [.slice sxc nsc csc, .slice aac nac cac] := by rw [hb]; exact Lin.new _ _ [.slice sxc nsc csc, .slice aac nac cac]
  replace S := S.later (Later.new _ (.cells #[.slice sxc nsc csc, .slice aac nac cac] 25))
  rw [Later.new_w] at S
  replace hm := hm.later (Later.new _ (.cells #[.slice sxc nsc csc, .slice aac nac cac] 25))
  rw [Later.new_w] at hm
  replace hm2 := hm2.later (Later.new _ (.cells #[.slice sxc nsc csc, .slice aac nac cac] 25))
  rw [Later.new_w] at hm2
  replace hm3 := hm3.later (Later.new _ (.cells #[.slice sxc nsc csc, .slice aac nac cac] 25))
  rw [Later.new_w] at hm3
  replace l1 := l1.later (Later.new _ (.cells #[.slice sxc nsc csc, .slice aac nac cac] 25))
  rw [Later.new_w] at l1
  replace l3 := l3.later (Later.new _ (.cells #[.slice sxc nsc csc, .slice aac nac cac] 25))
  rw [Later.new_w] at l3
  replace l5 := l5.later (Later.new _ (.cells #[.slice sxc nsc csc, .slice aac nac cac] 25))
  rw [Later.new_w] at l5
  replace hma := hma.later (Later.new _ (.cells #[.slice sxc nsc csc, .slice aac nac cac] 25))
  rw [Later.new_w] at hma
  replace l11 := l11.later (Later.new _ (.cells #[.slice sxc nsc csc, .slice aac nac cac] 25))
  rw [Later.new_w] at l11
  replace hmb := hmb.later (Later.new _ (.cells #[.slice sxc nsc csc, .slice aac nac cac] 25))
  rw [Later.new_w] at hmb
  replace l14 := l14.later (Later.new _ (.cells #[.slice sxc nsc csc, .slice aac nac cac] 25))
  rw [Later.new_w] at l14
  replace hmc := hmc.later (Later.new _ (.cells #[.slice sxc nsc csc, .slice aac nac cac] 25))
  rw [Later.new_w] at hmc
  have hsz : (Y16.w.alloc (.cells #[.slice sxc nsc csc, .slice aac nac cac] 25)).heap.size = B17 + 1 := by rw [hb]; simp
  obtain ⟨Y18, hZ⟩ : ∃ Z : Later W, Z.w = Y16.w.alloc (.cells #[.slice sxc nsc csc, .slice aac nac cac] 25) := ⟨Y16.step (Later.new _ _), rfl⟩
  rw [← hZ] at S hsz hm hm2 hm3 l1 l3 l5 hma l11 hmb l14 hmc l17 ⊢
  clear hZ
  rw [← hb]
  clear hb
  try rw [← hsz]
  clear hsz
  apply joinT (A := Later Y18.w) (H := fun V T _ _ _ _ _ _ u1 u2 u3 v1 v2 v3 => Lin V.w T 25 [.slice u1 u2 u3, .slice v1 v2 v3] ∧ Mks V.w (.slice u1 u2 u3) (.slice v1 v2 v3) st ad)
  · intro key
    refine wp_region_held (S := fun w' => Lin w' B1 25 [.slice sx ns cs, .slice aa na ca]) (by kernel_rfl) ?_
    show wpAnyH _ _ _ _ _ _ _ _ Y18.w.drew
    obtain ⟨V9, hV9⟩ : ∃ V : Later Y18.w, V.w = Y18.w.drew := ⟨Later.draw Y18.w, rfl⟩
    have lE := l1.later V9
    have hb := hm.later V9
    rw [← hV9]
    clear hV9
    refine wpAnyH_take (i := 0) (v := Value.string ⟨l.toArray⟩) rfl (by kernel_rfl) (by kernel_rfl) (by kernel_rfl) (fun _ _ _ h => h) (Yields.yieldsIf (.inl ⟨by rfl, fun w => by rfl⟩)) lE ?_
    simp only [List.getElem_toArray, List.getElem_cons_zero, Act.put, List.setIfInBounds_toArray, List.set]
    refine wpAnyH_take (i := 1) (v := .agg #[.slice sx ns cs, .slice aa na ca]) rfl (by kernel_rfl) (by kernel_rfl) (by kernel_rfl) (fun _ _ _ h => h) (.inl ⟨by rfl, fun w' hw' => exec_loadM rfl rfl hw'⟩) lE ?_
    simp only [List.getElem_toArray, List.getElem_cons_succ, List.getElem_cons_zero, Act.put, List.setIfInBounds_toArray, List.set]
    refine wpAnyH_take (i := 2) (v := Value.string ⟨l.toArray⟩) rfl (by kernel_rfl) (by kernel_rfl) (by kernel_rfl) (fun _ _ _ h => h) (Yields.yieldsIf (.inl ⟨by rfl, fun w => by rfl⟩)) lE ?_
    simp only [List.getElem_toArray, List.getElem_cons_succ, List.getElem_cons_zero, Act.put, List.setIfInBounds_toArray, List.set]
    refine wpAnyH_all (rs := [3, 8]) (by kernel_rfl) (by simp) (fun i hi => ?_)
    have hi2 : i = 3 ∨ i = 8 := by simpa using hi
    clear hi
    rcases hi2 with rfl | rfl
    · refine wpOp_some rfl (by rfl) (fun K hK => ?_)
      simp only [List.getElem_toArray, List.getElem_cons_succ, List.getElem_cons_zero]
      go_wp2_with fail
      refine (Marks_calls l (-1) [] _ [] (by have := HN.out; omega) _ (Ints.nil _ _)).mono ?_
      rintro e w' ⟨sv, av, y1, rfl, rfl, hI, hT⟩
      rw [HZA.out] at hT
      have hmz : Mks y1.w sv av [] zs := ⟨hI, hT.strs (by have := HZL.out; have := HN.out; omega)⟩
      clear hI hT
      obtain ⟨sxz, nsz, csz, rfl⟩ : ∃ a n c, sv = Value.slice a n c := by obtain ⟨a, c, e⟩ := hmz.s.form; exact ⟨a, _, c, e⟩
      obtain ⟨aaz, naz, caz, rfl⟩ : ∃ a n c, av = Value.slice a n c := by obtain ⟨a, c, e⟩ := hmz.a.form; exact ⟨a, _, c, e⟩
      refine hK _ _ ?_
      clear hK K
      replace lE := lE.later y1
      replace hb := hb.later y1
      refine ⟨lE, ?_⟩
      refine wpAnyH_all (rs := [4, 8]) (by kernel_rfl) (by simp) (fun i hi => ?_)
      have hi2 : i = 4 ∨ i = 8 := by simpa using hi
      clear hi
      rcases hi2 with rfl | rfl
      · refine wpOp_some rfl (by rfl) (fun K hK => ?_)
        simp only [List.getElem_toArray, List.getElem_cons_succ, List.getElem_cons_zero]
        go_wp2_with fail
        refine (Merge_calls l _ _ st ad _ _ [] zs _ hb hmz).mono ?_
        rintro e w' ⟨sv, av, y2, rfl, rfl, hmd⟩
        rw [HMZ.out.2.2]
        rw [HMZ.out.1, HMZ.out.2.1] at hmd
        obtain ⟨sxd, nsd, csd, rfl⟩ : ∃ a n c, sv = Value.slice a n c := by obtain ⟨a, c, e⟩ := hmd.s.form; exact ⟨a, _, c, e⟩
        obtain ⟨aad, nad, cad, rfl⟩ : ∃ a n c, av = Value.slice a n c := by obtain ⟨a, c, e⟩ := hmd.a.form; exact ⟨a, _, c, e⟩
        refine hK _ _ ?_
        clear hK K hmz
        replace lE := lE.later y2
        replace hb := hb.later y2
        refine ⟨lE, ?_⟩
        refine wpAnyH_take (i := 5) (v := .tuple #[.agg #[.slice sxd nsd csd, .slice aad nad cad], .int .i64 0]) rfl (by kernel_rfl) (by kernel_rfl) (by kernel_rfl) (fun _ _ _ h => h) (Yields.yieldsIf (.inl ⟨by rfl, fun w => by rfl⟩)) lE ?_
        simp only [List.getElem_toArray, List.getElem_cons_succ, List.getElem_cons_zero, Act.put, List.setIfInBounds_toArray, List.set]
        refine wpAnyH_take (i := 6) (v := .agg #[.slice sxd nsd csd, .slice aad nad cad]) rfl (by kernel_rfl) (by kernel_rfl) (by kernel_rfl) (fun _ _ _ h => h) (Yields.yieldsIf (.inl ⟨by rfl, fun w => by rfl⟩)) lE ?_
        simp only [List.getElem_toArray, List.getElem_cons_succ, List.getElem_cons_zero, Act.put, List.setIfInBounds_toArray, List.set]
        refine wpAnyH_take (i := 7) (v := .int .i64 0) rfl (by kernel_rfl) (by kernel_rfl) (by kernel_rfl) (fun _ _ _ h => h) (Yields.yieldsIf (.inl ⟨by rfl, fun w => by rfl⟩)) lE ?_
        simp only [List.getElem_toArray, List.getElem_cons_succ, List.getElem_cons_zero, Act.put, List.setIfInBounds_toArray, List.set]
        refine wpAnyH_all (rs := [8]) (by kernel_rfl) (by simp) (fun i hi => ?_)
        obtain rfl : i = 8 := by simpa using hi
        clear hi
        refine wpOp_some rfl (by rfl) (fun K hK => ?_)
        simp only [List.getElem_toArray, List.getElem_cons_succ, List.getElem_cons_zero]
        go_wp2_with fail
        obtain ⟨T, hTe⟩ : ∃ T, T = y2.w.heap.size := ⟨_, rfl⟩
        obtain ⟨A1, hA1⟩ : ∃ A : Later y2.w, A.w = y2.w.alloc (.cells #[.slice none 0 0, .slice none 0 0] 25) := ⟨Later.new _ _, rfl⟩
        have kT : Lin A1.w T 25 [.slice none 0 0, .slice none 0 0] := by rw [hA1, hTe]; exact Lin.new _ _ [_, _]
        have hT : Y18.w.heap.size ≤ T := by rw [hTe]; exact (V9.step (y1.step (y2))).size
        have hbT : B1 ≠ T := by have := l1.lt; omega
        rw [← hA1, ← hTe]
        clear hA1 hTe
        replace lE := lE.later A1
        replace hb := hb.later A1
        replace hmd := hmd.later A1
        refine ⟨lE, ?_⟩
        have t0 := kT.cell (k := 0) rfl
        have t1' := kT.cell (k := 1) rfl
        have f0 := kT.frozen 0
        have f1 := kT.frozen 1
        have tl := kT.lt
        have hB4 : Below Y18.w.heap.size Y18.w A1.w := (V9.step (y1.step (y2.step (A1)))).le
        have HB := Lib.hid ((hB4.setCell (p := ⟨T, 0, none⟩) hT (.slice sxd nsd csd)).setCell (p := ⟨T, 1, none⟩) hT (.slice aad nad cad))
        have HK1 := Lib.hid ((kT.set 0 (.slice sxd nsd csd)).set 1 (.slice aad nad cad))
        have HM4 := Lib.hid ((hmd.past t0 (.slice sxd nsd csd)).past ((kT.set 0 (.slice sxd nsd csd)).cell (k := 1) rfl) (.slice aad nad cad))
        have HE4 := Lib.hid ((lE.other (b := T) (k := 0) hbT (.slice sxd nsd csd)).other (b := T) (k := 1) hbT (.slice aad nad cad))
        clear kT hmd hB4 lE hb
        refine wpAnyH_all (rs := [9]) (by kernel_rfl) (by simp) (fun i hi => ?_)
        obtain rfl : i = 9 := by simpa using hi
        clear hi
        refine wpOp_some rfl (by rfl) (fun K hK => ?_)
        simp only [List.getElem_toArray, List.getElem_cons_succ, List.getElem_cons_zero]
        go_wp2_with fail
        clear t0 t1' f0 f1 tl
        obtain ⟨V1, hV1⟩ : ∃ V1 : Later Y18.w, V1.w = (A1.w.setCell ⟨T, 0, none⟩ (.slice sxd nsd csd)).setCell ⟨T, 1, none⟩ (.slice aad nad cad) := ⟨⟨_, HB.out⟩, rfl⟩
        rw [← hV1] at HK1 HM4 HE4 ⊢
        clear hV1 HB
        refine ⟨HE4.out, ?_⟩
        refine wpAnyH_all (rs := [10]) (by kernel_rfl) (by simp) (fun i hi => ?_)
        obtain rfl : i = 10 := by simpa using hi
        clear hi
        refine wpOp_some rfl (by rfl) (fun K hK => ?_)
        simp only [List.getElem_toArray, List.getElem_cons_succ, List.getElem_cons_zero]
        go_wp2_with fail
        refine ⟨HE4.out, ?_⟩
        refine wpAnyH_done (by kernel_rfl) ?_ _
        exact key V1 T sxz nsz csz aaz naz caz sxd nsd csd aad nad cad ⟨HK1.out, HM4.out⟩
      · refine wpOp_some rfl (by rfl) (fun K hK => ?_)
        simp only [List.getElem_toArray, List.getElem_cons_succ, List.getElem_cons_zero]
        go_wp2_with fail
        obtain ⟨T, hTe⟩ : ∃ T, T = y1.w.heap.size := ⟨_, rfl⟩
        obtain ⟨A1, hA1⟩ : ∃ A : Later y1.w, A.w = y1.w.alloc (.cells #[.slice none 0 0, .slice none 0 0] 25) := ⟨Later.new _ _, rfl⟩
        have kT : Lin A1.w T 25 [.slice none 0 0, .slice none 0 0] := by rw [hA1, hTe]; exact Lin.new _ _ [_, _]
        have hT : Y18.w.heap.size ≤ T := by rw [hTe]; exact (V9.step (y1)).size
        have hbT : B1 ≠ T := by have := l1.lt; omega
        rw [← hA1, ← hTe]
        clear hA1 hTe
        replace lE := lE.later A1
        replace hb := hb.later A1
        replace hmz := hmz.later A1
        refine ⟨lE, ?_⟩
        refine wpAnyH_all (rs := [4]) (by kernel_rfl) (by simp) (fun i hi => ?_)
        obtain rfl : i = 4 := by simpa using hi
        clear hi
        refine wpOp_some rfl (by rfl) (fun K hK => ?_)
        simp only [List.getElem_toArray, List.getElem_cons_succ, List.getElem_cons_zero]
        go_wp2_with fail
        refine (Merge_calls l _ _ st ad _ _ [] zs _ hb hmz).mono ?_
        rintro e w' ⟨sv, av, y2, rfl, rfl, hmd⟩
        rw [HMZ.out.2.2]
        rw [HMZ.out.1, HMZ.out.2.1] at hmd
        obtain ⟨sxd, nsd, csd, rfl⟩ : ∃ a n c, sv = Value.slice a n c := by obtain ⟨a, c, e⟩ := hmd.s.form; exact ⟨a, _, c, e⟩
        obtain ⟨aad, nad, cad, rfl⟩ : ∃ a n c, av = Value.slice a n c := by obtain ⟨a, c, e⟩ := hmd.a.form; exact ⟨a, _, c, e⟩
        refine hK _ _ ?_
        clear hK K hmz
        replace lE := lE.later y2
        replace hb := hb.later y2
        replace kT := kT.later y2
        refine ⟨lE, ?_⟩
        refine wpAnyH_take (i := 5) (v := .tuple #[.agg #[.slice sxd nsd csd, .slice aad nad cad], .int .i64 0]) rfl (by kernel_rfl) (by kernel_rfl) (by kernel_rfl) (fun _ _ _ h => h) (Yields.yieldsIf (.inl ⟨by rfl, fun w => by rfl⟩)) lE ?_
        simp only [List.getElem_toArray, List.getElem_cons_succ, List.getElem_cons_zero, Act.put, List.setIfInBounds_toArray, List.set]
        refine wpAnyH_take (i := 6) (v := .agg #[.slice sxd nsd csd, .slice aad nad cad]) rfl (by kernel_rfl) (by kernel_rfl) (by kernel_rfl) (fun _ _ _ h => h) (Yields.yieldsIf (.inl ⟨by rfl, fun w => by rfl⟩)) lE ?_
        simp only [List.getElem_toArray, List.getElem_cons_succ, List.getElem_cons_zero, Act.put, List.setIfInBounds_toArray, List.set]
        refine wpAnyH_take (i := 7) (v := .int .i64 0) rfl (by kernel_rfl) (by kernel_rfl) (by kernel_rfl) (fun _ _ _ h => h) (Yields.yieldsIf (.inl ⟨by rfl, fun w => by rfl⟩)) lE ?_
        simp only [List.getElem_toArray, List.getElem_cons_succ, List.getElem_cons_zero, Act.put, List.setIfInBounds_toArray, List.set]
        have t0 := kT.cell (k := 0) rfl
        have t1' := kT.cell (k := 1) rfl
        have f0 := kT.frozen 0
        have f1 := kT.frozen 1
        have tl := kT.lt
        have hB4 : Below Y18.w.heap.size Y18.w y2.w := (V9.step (y1.step (A1.step (y2)))).le
        have HB := Lib.hid ((hB4.setCell (p := ⟨T, 0, none⟩) hT (.slice sxd nsd csd)).setCell (p := ⟨T, 1, none⟩) hT (.slice aad nad cad))
        have HK1 := Lib.hid ((kT.set 0 (.slice sxd nsd csd)).set 1 (.slice aad nad cad))
        have HM4 := Lib.hid ((hmd.past t0 (.slice sxd nsd csd)).past ((kT.set 0 (.slice sxd nsd csd)).cell (k := 1) rfl) (.slice aad nad cad))
        have HE4 := Lib.hid ((lE.other (b := T) (k := 0) hbT (.slice sxd nsd csd)).other (b := T) (k := 1) hbT (.slice aad nad cad))
        clear kT hmd hB4 lE hb
        refine wpAnyH_all (rs := [9]) (by kernel_rfl) (by simp) (fun i hi => ?_)
        obtain rfl : i = 9 := by simpa using hi
        clear hi
        refine wpOp_some rfl (by rfl) (fun K hK => ?_)
        simp only [List.getElem_toArray, List.getElem_cons_succ, List.getElem_cons_zero]
        go_wp2_with fail
        clear t0 t1' f0 f1 tl
        obtain ⟨V1, hV1⟩ : ∃ V1 : Later Y18.w, V1.w = (y2.w.setCell ⟨T, 0, none⟩ (.slice sxd nsd csd)).setCell ⟨T, 1, none⟩ (.slice aad nad cad) := ⟨⟨_, HB.out⟩, rfl⟩
        rw [← hV1] at HK1 HM4 HE4 ⊢
        clear hV1 HB
        refine ⟨HE4.out, ?_⟩
        refine wpAnyH_all (rs := [10]) (by kernel_rfl) (by simp) (fun i hi => ?_)
        obtain rfl : i = 10 := by simpa using hi
        clear hi
        refine wpOp_some rfl (by rfl) (fun K hK => ?_)
        simp only [List.getElem_toArray, List.getElem_cons_succ, List.getElem_cons_zero]
        go_wp2_with fail
        refine ⟨HE4.out, ?_⟩
        refine wpAnyH_done (by kernel_rfl) ?_ _
        exact key V1 T sxz nsz csz aaz naz caz sxd nsd csd aad nad cad ⟨HK1.out, HM4.out⟩
    · refine wpOp_some rfl (by rfl) (fun K hK => ?_)
      simp only [List.getElem_toArray, List.getElem_cons_succ, List.getElem_cons_zero]
      go_wp2_with fail
      obtain ⟨T, hTe⟩ : ∃ T, T = V9.w.heap.size := ⟨_, rfl⟩
      obtain ⟨A1, hA1⟩ : ∃ A : Later V9.w, A.w = V9.w.alloc (.cells #[.slice none 0 0, .slice none 0 0] 25) := ⟨Later.new _ _, rfl⟩
      have kT : Lin A1.w T 25 [.slice none 0 0, .slice none 0 0] := by rw [hA1, hTe]; exact Lin.new _ _ [_, _]
      have hT : Y18.w.heap.size ≤ T := by rw [hTe]; exact (V9).size
      have hbT : B1 ≠ T := by have := l1.lt; omega
      rw [← hA1, ← hTe]
      clear hA1 hTe
      replace lE := lE.later A1
      replace hb := hb.later A1
      refine ⟨lE, ?_⟩
      refine wpAnyH_all (rs := [3]) (by kernel_rfl) (by simp) (fun i hi => ?_)
      obtain rfl : i = 3 := by simpa using hi
      clear hi
      refine wpOp_some rfl (by rfl) (fun K hK => ?_)
      simp only [List.getElem_toArray, List.getElem_cons_succ, List.getElem_cons_zero]
      go_wp2_with fail
      refine (Marks_calls l (-1) [] _ [] (by have := HN.out; omega) _ (Ints.nil _ _)).mono ?_
      rintro e w' ⟨sv, av, y1, rfl, rfl, hI, hT⟩
      rw [HZA.out] at hT
      have hmz : Mks y1.w sv av [] zs := ⟨hI, hT.strs (by have := HZL.out; have := HN.out; omega)⟩
      clear hI hT
      obtain ⟨sxz, nsz, csz, rfl⟩ : ∃ a n c, sv = Value.slice a n c := by obtain ⟨a, c, e⟩ := hmz.s.form; exact ⟨a, _, c, e⟩
      obtain ⟨aaz, naz, caz, rfl⟩ : ∃ a n c, av = Value.slice a n c := by obtain ⟨a, c, e⟩ := hmz.a.form; exact ⟨a, _, c, e⟩
      refine hK _ _ ?_
      clear hK K
      replace lE := lE.later y1
      replace hb := hb.later y1
      replace kT := kT.later y1
      refine ⟨lE, ?_⟩
      refine wpAnyH_all (rs := [4]) (by kernel_rfl) (by simp) (fun i hi => ?_)
      obtain rfl : i = 4 := by simpa using hi
      clear hi
      refine wpOp_some rfl (by rfl) (fun K hK => ?_)
      simp only [List.getElem_toArray, List.getElem_cons_succ, List.getElem_cons_zero]
      go_wp2_with fail
      refine (Merge_calls l _ _ st ad _ _ [] zs _ hb hmz).mono ?_
      rintro e w' ⟨sv, av, y2, rfl, rfl, hmd⟩
      rw [HMZ.out.2.2]
      rw [HMZ.out.1, HMZ.out.2.1] at hmd
      obtain ⟨sxd, nsd, csd, rfl⟩ : ∃ a n c, sv = Value.slice a n c := by obtain ⟨a, c, e⟩ := hmd.s.form; exact ⟨a, _, c, e⟩
      obtain ⟨aad, nad, cad, rfl⟩ : ∃ a n c, av = Value.slice a n c := by obtain ⟨a, c, e⟩ := hmd.a.form; exact ⟨a, _, c, e⟩
      refine hK _ _ ?_
      clear hK K hmz
      replace lE := lE.later y2
      replace hb := hb.later y2
      replace kT := kT.later y2
      refine ⟨lE, ?_⟩
      refine wpAnyH_take (i := 5) (v := .tuple #[.agg #[.slice sxd nsd csd, .slice aad nad cad], .int .i64 0]) rfl (by kernel_rfl) (by kernel_rfl) (by kernel_rfl) (fun _ _ _ h => h) (Yields.yieldsIf (.inl ⟨by rfl, fun w => by rfl⟩)) lE ?_
      simp only [List.getElem_toArray, List.getElem_cons_succ, List.getElem_cons_zero, Act.put, List.setIfInBounds_toArray, List.set]
      refine wpAnyH_take (i := 6) (v := .agg #[.slice sxd nsd csd, .slice aad nad cad]) rfl (by kernel_rfl) (by kernel_rfl) (by kernel_rfl) (fun _ _ _ h => h) (Yields.yieldsIf (.inl ⟨by rfl, fun w => by rfl⟩)) lE ?_
      simp only [List.getElem_toArray, List.getElem_cons_succ, List.getElem_cons_zero, Act.put, List.setIfInBounds_toArray, List.set]
      refine wpAnyH_take (i := 7) (v := .int .i64 0) rfl (by kernel_rfl) (by kernel_rfl) (by kernel_rfl) (fun _ _ _ h => h) (Yields.yieldsIf (.inl ⟨by rfl, fun w => by rfl⟩)) lE ?_
      simp only [List.getElem_toArray, List.getElem_cons_succ, List.getElem_cons_zero, Act.put, List.setIfInBounds_toArray, List.set]
      have t0 := kT.cell (k := 0) rfl
      have t1' := kT.cell (k := 1) rfl
      have f0 := kT.frozen 0
      have f1 := kT.frozen 1
      have tl := kT.lt
      have hB4 : Below Y18.w.heap.size Y18.w y2.w := (V9.step (A1.step (y1.step (y2)))).le
      have HB := Lib.hid ((hB4.setCell (p := ⟨T, 0, none⟩) hT (.slice sxd nsd csd)).setCell (p := ⟨T, 1, none⟩) hT (.slice aad nad cad))
      have HK1 := Lib.hid ((kT.set 0 (.slice sxd nsd csd)).set 1 (.slice aad nad cad))
      have HM4 := Lib.hid ((hmd.past t0 (.slice sxd nsd csd)).past ((kT.set 0 (.slice sxd nsd csd)).cell (k := 1) rfl) (.slice aad nad cad))
      have HE4 := Lib.hid ((lE.other (b := T) (k := 0) hbT (.slice sxd nsd csd)).other (b := T) (k := 1) hbT (.slice aad nad cad))
      clear kT hmd hB4 lE hb
      refine wpAnyH_all (rs := [9]) (by kernel_rfl) (by simp) (fun i hi => ?_)
      obtain rfl : i = 9 := by simpa using hi
      clear hi
      refine wpOp_some rfl (by rfl) (fun K hK => ?_)
      simp only [List.getElem_toArray, List.getElem_cons_succ, List.getElem_cons_zero]
      go_wp2_with fail
      clear t0 t1' f0 f1 tl
      obtain ⟨V1, hV1⟩ : ∃ V1 : Later Y18.w, V1.w = (y2.w.setCell ⟨T, 0, none⟩ (.slice sxd nsd csd)).setCell ⟨T, 1, none⟩ (.slice aad nad cad) := ⟨⟨_, HB.out⟩, rfl⟩
      rw [← hV1] at HK1 HM4 HE4 ⊢
      clear hV1 HB
      refine ⟨HE4.out, ?_⟩
      refine wpAnyH_all (rs := [10]) (by kernel_rfl) (by simp) (fun i hi => ?_)
      obtain rfl : i = 10 := by simpa using hi
      clear hi
      refine wpOp_some rfl (by rfl) (fun K hK => ?_)
      simp only [List.getElem_toArray, List.getElem_cons_succ, List.getElem_cons_zero]
      go_wp2_with fail
      refine ⟨HE4.out, ?_⟩
      refine wpAnyH_done (by kernel_rfl) ?_ _
      exact key V1 T sxz nsz csz aaz naz caz sxd nsd csd aad nad cad ⟨HK1.out, HM4.out⟩
  intro V1 T sxz nsz csz aaz naz caz sxd nsd csd aad nad cad hall
  obtain ⟨ld, hmd⟩ := hall
  replace hm := hm.later V1
  replace hm2 := hm2.later V1
  replace hm3 := hm3.later V1
  replace l1 := l1.later V1
  replace l3 := l3.later V1
  replace l5 := l5.later V1
  replace hma := hma.later V1
  replace l11 := l11.later V1
  replace hmb := hmb.later V1
  replace l14 := l14.later V1
  replace hmc := hmc.later V1
  replace l17 := l17.later V1
  replace S := S.later V1
  obtain ⟨Y19, hZ⟩ : ∃ Z : Later W, Z.w = V1.w := ⟨Y18.step (V1), rfl⟩
  rw [← hZ] at S hm hm2 hm3 l1 l3 l5 hma l11 hmb l14 hmc l17 ld hmd ⊢
  clear hZ
  have q0_0 := l1.cell (k := 0) rfl
  have q0_1 := l1.cell (k := 1) rfl
  have q0_l := l1.lt
  have q1_0 := l3.cell (k := 0) rfl
  have q1_1 := l3.cell (k := 1) rfl
  have q1_l := l3.lt
  go_wp2_with fail
  clear q0_0 q0_1 q0_l
  clear q1_0 q1_1 q1_l
  refine (Clash_calls l _ _ st ad _ _ st2 ad2 _ hm hm2).mono ?_
  rintro e w' ⟨rfl, y, rfl⟩
  rw [HCL.out.1, HCL.out.2]
  replace hm := hm.later y
  replace hm2 := hm2.later y
  replace hm3 := hm3.later y
  replace l1 := l1.later y
  replace l3 := l3.later y
  replace l5 := l5.later y
  replace hma := hma.later y
  replace l11 := l11.later y
  replace hmb := hmb.later y
  replace l14 := l14.later y
  replace hmc := hmc.later y
  replace l17 := l17.later y
  replace ld := ld.later y
  replace hmd := hmd.later y
  replace S := S.later y
  obtain ⟨Y20, hZ⟩ : ∃ Z : Later W, Z.w = y.w := ⟨Y19.step (y), rfl⟩
  rw [← hZ] at S hm hm2 hm3 l1 l3 l5 hma l11 hmb l14 hmc l17 ld hmd ⊢
  clear hZ
  clear y
  have q0_0 := l11.cell (k := 0) rfl
  have q0_1 := l11.cell (k := 1) rfl
  have q0_l := l11.lt
  have q1_0 := l14.cell (k := 0) rfl
  have q1_1 := l14.cell (k := 1) rfl
  have q1_l := l14.lt
  go_wp2_with fail
  clear q0_0 q0_1 q0_l
  clear q1_0 q1_1 q1_l
  refine (Same_calls _ _ _ _ _ _ _ _ _ hma hmb).mono ?_
  rintro e w' ⟨rfl, y, rfl⟩
  rw [HSM.out]
  replace hm := hm.later y
  replace hm2 := hm2.later y
  replace hm3 := hm3.later y
  replace l1 := l1.later y
  replace l3 := l3.later y
  replace l5 := l5.later y
  replace hma := hma.later y
  replace l11 := l11.later y
  replace hmb := hmb.later y
  replace l14 := l14.later y
  replace hmc := hmc.later y
  replace l17 := l17.later y
  replace ld := ld.later y
  replace hmd := hmd.later y
  replace S := S.later y
  obtain ⟨Y21, hZ⟩ : ∃ Z : Later W, Z.w = y.w := ⟨Y20.step (y), rfl⟩
  rw [← hZ] at S hm hm2 hm3 l1 l3 l5 hma l11 hmb l14 hmc l17 ld hmd ⊢
  clear hZ
  clear y
  have q0_0 := l17.cell (k := 0) rfl
  have q0_1 := l17.cell (k := 1) rfl
  have q0_l := l17.lt
  have q1_0 := l1.cell (k := 0) rfl
  have q1_1 := l1.cell (k := 1) rfl
  have q1_l := l1.lt
  go_wp2_with fail
  clear q0_0 q0_1 q0_l
  clear q1_0 q1_1 q1_l
  refine (Same_calls _ _ _ _ _ _ _ _ _ hmc hm).mono ?_
  rintro e w' ⟨rfl, y, rfl⟩
  rw [HSM.out]
  replace hm := hm.later y
  replace hm2 := hm2.later y
  replace hm3 := hm3.later y
  replace l1 := l1.later y
  replace l3 := l3.later y
  replace l5 := l5.later y
  replace hma := hma.later y
  replace l11 := l11.later y
  replace hmb := hmb.later y
  replace l14 := l14.later y
  replace hmc := hmc.later y
  replace l17 := l17.later y
  replace ld := ld.later y
  replace hmd := hmd.later y
  replace S := S.later y
  obtain ⟨Y22, hZ⟩ : ∃ Z : Later W, Z.w = y.w := ⟨Y21.step (y), rfl⟩
  rw [← hZ] at S hm hm2 hm3 l1 l3 l5 hma l11 hmb l14 hmc l17 ld hmd ⊢
  clear hZ
  clear y
  have q0_0 := ld.cell (k := 0) rfl
  have q0_1 := ld.cell (k := 1) rfl
  have q0_l := ld.lt
  have q1_0 := l1.cell (k := 0) rfl
  have q1_1 := l1.cell (k := 1) rfl
  have q1_l := l1.lt
  go_wp2_with fail
  clear q0_0 q0_1 q0_l
  clear q1_0 q1_1 q1_l
  refine (Same_calls _ _ _ _ _ _ _ _ _ hmd hm).mono ?_
  rintro e w' ⟨rfl, y, rfl⟩
  rw [HSM.out]
  replace hm := hm.later y
  replace hm2 := hm2.later y
  replace hm3 := hm3.later y
  replace l1 := l1.later y
  replace l3 := l3.later y
  replace l5 := l5.later y
  replace hma := hma.later y
  replace l11 := l11.later y
  replace hmb := hmb.later y
  replace l14 := l14.later y
  replace hmc := hmc.later y
  replace l17 := l17.later y
  replace ld := ld.later y
  replace hmd := hmd.later y
  replace S := S.later y
  obtain ⟨Y23, hZ⟩ : ∃ Z : Later W, Z.w = y.w := ⟨Y22.step (y), rfl⟩
  rw [← hZ] at S hm hm2 hm3 l1 l3 l5 hma l11 hmb l14 hmc l17 ld hmd ⊢
  clear hZ
  clear y
  clear hmb
  clear hmc
  clear hmd
  clear ld
  clear l14
  clear l17
  have q0_0 := l11.cell (k := 0) rfl
  have q0_1 := l11.cell (k := 1) rfl
  have q0_l := l11.lt
  go_wp2_with fail
  clear q0_0 q0_1 q0_l
  refine (fine_calls l _ _ S1 A1 _ hma).mono ?_
  rintro e w' ⟨rfl, y, rfl⟩
  rw [HFA.out]
  replace hm := hm.later y
  replace hm2 := hm2.later y
  replace hm3 := hm3.later y
  replace l1 := l1.later y
  replace l3 := l3.later y
  replace l5 := l5.later y
  replace hma := hma.later y
  replace l11 := l11.later y
  replace S := S.later y
  obtain ⟨Y24, hZ⟩ : ∃ Z : Later W, Z.w = y.w := ⟨Y23.step (y), rfl⟩
  rw [← hZ] at S hm hm2 hm3 l1 l3 l5 hma l11 ⊢
  clear hZ
  clear y
  obtain ⟨Va, hVa⟩ : ∃ V, rd S1 l A1 (l.length + 1) = V := ⟨_, rfl⟩
  have hro := ReadOf_calls l (.slice sxa nsa csa) (.slice aaa naa caa) S1 A1 HOA.out
  rw [hVa, show (S1.length : Int) + (cn A1 (l.length + 1) : Nat) = (NA : Int) by rw [← HNA.out]; omega] at hro
  have HROa := Lib.hid hro
  clear hro hVa
  have q0_0 := l11.cell (k := 0) rfl
  have q0_1 := l11.cell (k := 1) rfl
  have q0_l := l11.lt
  go_wp2_with fail
  clear q0_0 q0_1 q0_l
  refine (HROa.out _ hma).mono ?_
  rintro e w' ⟨rfl, y, rfl⟩
  replace hm := hm.later y
  replace hm2 := hm2.later y
  replace hm3 := hm3.later y
  replace l1 := l1.later y
  replace l3 := l3.later y
  replace l5 := l5.later y
  replace hma := hma.later y
  replace l11 := l11.later y
  replace S := S.later y
  obtain ⟨Y25, hZ⟩ : ∃ Z : Later W, Z.w = y.w := ⟨Y24.step (y), rfl⟩
  rw [← hZ] at S hm hm2 hm3 l1 l3 l5 hma l11 ⊢
  clear hZ
  clear y
  obtain ⟨Vm, hVm⟩ : ∃ V, rd st l ad (l.length + 1) = V := ⟨_, rfl⟩
  have hro := ReadOf_calls l (.slice sx ns cs) (.slice aa na ca) st ad ok1.out
  rw [hVm, show (st.length : Int) + (cn ad (l.length + 1) : Nat) = (NB : Int) by rw [← HNB.out]; omega] at hro
  have HROm := Lib.hid hro
  clear hro hVm
  have q0_0 := l1.cell (k := 0) rfl
  have q0_1 := l1.cell (k := 1) rfl
  have q0_l := l1.lt
  go_wp2_with fail
  clear q0_0 q0_1 q0_l
  refine (HROm.out _ hm).mono ?_
  rintro e w' ⟨rfl, y, rfl⟩
  replace hm := hm.later y
  replace hm2 := hm2.later y
  replace hm3 := hm3.later y
  replace l1 := l1.later y
  replace l3 := l3.later y
  replace l5 := l5.later y
  replace hma := hma.later y
  replace l11 := l11.later y
  replace S := S.later y
  obtain ⟨Y26, hZ⟩ : ∃ Z : Later W, Z.w = y.w := ⟨Y25.step (y), rfl⟩
  rw [← hZ] at S hm hm2 hm3 l1 l3 l5 hma l11 ⊢
  clear hZ
  clear y
  obtain ⟨Vn, hVn⟩ : ∃ V, rd st2 l ad2 (l.length + 1) = V := ⟨_, rfl⟩
  have hro := ReadOf_calls l (.slice sx2 ns2 cs2) (.slice aa2 na2 ca2) st2 ad2 ok2.out
  rw [hVn, show (st2.length : Int) + (cn ad2 (l.length + 1) : Nat) = (NC : Int) by rw [← HNC.out]; omega] at hro
  have HROn := Lib.hid hro
  clear hro hVn
  have q0_0 := l3.cell (k := 0) rfl
  have q0_1 := l3.cell (k := 1) rfl
  have q0_l := l3.lt
  go_wp2_with fail
  clear q0_0 q0_1 q0_l
  refine (HROn.out _ hm2).mono ?_
  rintro e w' ⟨rfl, y, rfl⟩
  replace hm := hm.later y
  replace hm2 := hm2.later y
  replace hm3 := hm3.later y
  replace l1 := l1.later y
  replace l3 := l3.later y
  replace l5 := l5.later y
  replace hma := hma.later y
  replace l11 := l11.later y
  replace S := S.later y
  obtain ⟨Y27, hZ⟩ : ∃ Z : Later W, Z.w = y.w := ⟨Y26.step (y), rfl⟩
  rw [← hZ] at S hm hm2 hm3 l1 l3 l5 hma l11 ⊢
  clear hZ
  clear y
  go_wp2
  go_loopw [25] (fun i0 wr => ∃ (k : Nat) (u : Later Y27.w), wr = u.w ∧ k ≤ n ∧ i0 = .int .i64 k) (fun i0 _ => n - (intOf i0).toNat)
  case atStart => exact ⟨0, Later.self _, rfl, Nat.zero_le _, rfl⟩
  obtain ⟨k, u, rfl, hk, rfl⟩ := hrel
  replace hm := hm.later u
  replace hm2 := hm2.later u
  replace hm3 := hm3.later u
  replace l1 := l1.later u
  replace l3 := l3.later u
  replace l5 := l5.later u
  replace hma := hma.later u
  replace l11 := l11.later u
  replace S := S.later u
  by_cases hlt : k < n
  · have hpq := HHS.out k (by rw [HN.out]; exact hlt)
    obtain ⟨P, hP⟩ : ∃ P, hasB st (k : Int) = P := ⟨_, rfl⟩
    obtain ⟨Q, hQ⟩ : ∃ P, hasB st2 (k : Int) = P := ⟨_, rfl⟩
    rw [hP, hQ] at hpq
    have HP := Lib.hid hP
    have HQ := Lib.hid hQ
    have HPQ := Lib.hid hpq
    clear hP hQ hpq
    cases P
    all_goals cases Q
    · have HR := Lib.hid (show hasB S1 (k : Int) = false from HPQ.out)
      have qd0_0 := l11.cell (k := 0) rfl
      have qd0_1 := l11.cell (k := 1) rfl
      have qd0_l := l11.lt
      have qd1_0 := l1.cell (k := 0) rfl
      have qd1_1 := l1.cell (k := 1) rfl
      have qd1_l := l1.lt
      have qd2_0 := l3.cell (k := 0) rfl
      have qd2_1 := l3.cell (k := 1) rfl
      have qd2_l := l3.lt
      go_wp2
      refine Mix.region_mixL (Mix.kinds [] [3, 7, 12] []) (by kernel_rfl) (by kernel_rfl) ?_
      try go_frame
      repeat ((with_reducible refine Mix.atCons ?_); first | refine Mix.skipU (by rfl) rfl (by rfl) ?_ | (refine Mix.val rfl rfl (by rfl) (fun K hK => ?_); go_big_quiet_op; refine hK _ ?_; clear hK K) | (refine Mix.skip (by rfl) ?_; go_frame))
      refine Mix.loud rfl (by rfl) (fun x1 K hK => ?_)
      go_wp2_with fail
      refine (Has_calls _ S1 k _ ((hma.later x1)).s).mono ?_
      rintro e w' ⟨rfl, hw⟩
      rw [hw]
      rw [HR.out]
      refine hK _ (Later.self _) ?_
      clear hK K hw w'
      simp only [Later.self_w]
      try go_frame
      repeat ((with_reducible refine Mix.atCons ?_); first | refine Mix.skipU (by rfl) rfl (by rfl) ?_ | (refine Mix.val rfl rfl (by rfl) (fun K hK => ?_); go_big_quiet_op; refine hK _ ?_; clear hK K) | (refine Mix.skip (by rfl) ?_; go_frame))
      refine Mix.loud rfl (by rfl) (fun x2 K hK => ?_)
      go_wp2_with fail
      refine (Has_calls _ st k _ (((hm.later x1).later x2)).s).mono ?_
      rintro e w' ⟨rfl, hw⟩
      rw [hw]
      rw [HP.out]
      refine hK _ (Later.self _) ?_
      clear hK K hw w'
      simp only [Later.self_w]
      try go_frame
      repeat ((with_reducible refine Mix.atCons ?_); first | refine Mix.skipU (by rfl) rfl (by rfl) ?_ | (refine Mix.val rfl rfl (by rfl) (fun K hK => ?_); go_big_quiet_op; refine hK _ ?_; clear hK K) | (refine Mix.skip (by rfl) ?_; go_frame))
      refine Mix.loud rfl (by rfl) (fun x3 K hK => ?_)
      go_wp2_with fail
      refine (Has_calls _ st2 k _ ((((hm2.later x1).later x2).later x3)).s).mono ?_
      rintro e w' ⟨rfl, hw⟩
      rw [hw]
      rw [HQ.out]
      refine hK _ (Later.self _) ?_
      clear hK K hw w'
      simp only [Later.self_w]
      try go_frame
      repeat ((with_reducible refine Mix.atCons ?_); first | refine Mix.skipU (by rfl) rfl (by rfl) ?_ | (refine Mix.val rfl rfl (by rfl) (fun K hK => ?_); go_big_quiet_op; refine hK _ ?_; clear hK K) | (refine Mix.skip (by rfl) ?_; go_frame))
      refine Mix.done (fun x4 => ?_)
      replace hm := ((((hm.later x1).later x2).later x3).later x4)
      replace hm2 := ((((hm2.later x1).later x2).later x3).later x4)
      replace hm3 := ((((hm3.later x1).later x2).later x3).later x4)
      replace l1 := ((((l1.later x1).later x2).later x3).later x4)
      replace l3 := ((((l3.later x1).later x2).later x3).later x4)
      replace l5 := ((((l5.later x1).later x2).later x3).later x4)
      replace hma := ((((hma.later x1).later x2).later x3).later x4)
      replace l11 := ((((l11.later x1).later x2).later x3).later x4)
      replace S := ((((S.later x1).later x2).later x3).later x4)
      obtain ⟨Y28, hZ⟩ : ∃ Z : Later Y27.w, Z.w = x4.w := ⟨u.step (x1.step (x2.step (x3.step (x4)))), rfl⟩
      rw [← hZ] at S hm hm2 hm3 l1 l3 l5 hma l11 ⊢
      clear hZ
      go_wp2
      go_roundw
      case rel => exact ⟨k + 1, Y28, rfl, by omega, by go_num⟩
      case measure => simp [intOf]; omega
    · have HR := Lib.hid (show hasB S1 (k : Int) = true from HPQ.out)
      have qd0_0 := l11.cell (k := 0) rfl
      have qd0_1 := l11.cell (k := 1) rfl
      have qd0_l := l11.lt
      have qd1_0 := l1.cell (k := 0) rfl
      have qd1_1 := l1.cell (k := 1) rfl
      have qd1_l := l1.lt
      have qd2_0 := l3.cell (k := 0) rfl
      have qd2_1 := l3.cell (k := 1) rfl
      have qd2_l := l3.lt
      go_wp2
      refine Mix.region_mixL (Mix.kinds [] [3, 7, 12] []) (by kernel_rfl) (by kernel_rfl) ?_
      try go_frame
      repeat ((with_reducible refine Mix.atCons ?_); first | refine Mix.skipU (by rfl) rfl (by rfl) ?_ | (refine Mix.val rfl rfl (by rfl) (fun K hK => ?_); go_big_quiet_op; refine hK _ ?_; clear hK K) | (refine Mix.skip (by rfl) ?_; go_frame))
      refine Mix.loud rfl (by rfl) (fun x1 K hK => ?_)
      go_wp2_with fail
      refine (Has_calls _ S1 k _ ((hma.later x1)).s).mono ?_
      rintro e w' ⟨rfl, hw⟩
      rw [hw]
      rw [HR.out]
      refine hK _ (Later.self _) ?_
      clear hK K hw w'
      simp only [Later.self_w]
      try go_frame
      repeat ((with_reducible refine Mix.atCons ?_); first | refine Mix.skipU (by rfl) rfl (by rfl) ?_ | (refine Mix.val rfl rfl (by rfl) (fun K hK => ?_); go_big_quiet_op; refine hK _ ?_; clear hK K) | (refine Mix.skip (by rfl) ?_; go_frame))
      refine Mix.loud rfl (by rfl) (fun x2 K hK => ?_)
      go_wp2_with fail
      refine (Has_calls _ st k _ (((hm.later x1).later x2)).s).mono ?_
      rintro e w' ⟨rfl, hw⟩
      rw [hw]
      rw [HP.out]
      refine hK _ (Later.self _) ?_
      clear hK K hw w'
      simp only [Later.self_w]
      try go_frame
      repeat ((with_reducible refine Mix.atCons ?_); first | refine Mix.skipU (by rfl) rfl (by rfl) ?_ | (refine Mix.val rfl rfl (by rfl) (fun K hK => ?_); go_big_quiet_op; refine hK _ ?_; clear hK K) | (refine Mix.skip (by rfl) ?_; go_frame))
      refine Mix.loud rfl (by rfl) (fun x3 K hK => ?_)
      go_wp2_with fail
      refine (Has_calls _ st2 k _ ((((hm2.later x1).later x2).later x3)).s).mono ?_
      rintro e w' ⟨rfl, hw⟩
      rw [hw]
      rw [HQ.out]
      refine hK _ (Later.self _) ?_
      clear hK K hw w'
      simp only [Later.self_w]
      try go_frame
      repeat ((with_reducible refine Mix.atCons ?_); first | refine Mix.skipU (by rfl) rfl (by rfl) ?_ | (refine Mix.val rfl rfl (by rfl) (fun K hK => ?_); go_big_quiet_op; refine hK _ ?_; clear hK K) | (refine Mix.skip (by rfl) ?_; go_frame))
      refine Mix.done (fun x4 => ?_)
      replace hm := ((((hm.later x1).later x2).later x3).later x4)
      replace hm2 := ((((hm2.later x1).later x2).later x3).later x4)
      replace hm3 := ((((hm3.later x1).later x2).later x3).later x4)
      replace l1 := ((((l1.later x1).later x2).later x3).later x4)
      replace l3 := ((((l3.later x1).later x2).later x3).later x4)
      replace l5 := ((((l5.later x1).later x2).later x3).later x4)
      replace hma := ((((hma.later x1).later x2).later x3).later x4)
      replace l11 := ((((l11.later x1).later x2).later x3).later x4)
      replace S := ((((S.later x1).later x2).later x3).later x4)
      obtain ⟨Y28, hZ⟩ : ∃ Z : Later Y27.w, Z.w = x4.w := ⟨u.step (x1.step (x2.step (x3.step (x4)))), rfl⟩
      rw [← hZ] at S hm hm2 hm3 l1 l3 l5 hma l11 ⊢
      clear hZ
      go_wp2
      go_roundw
      case rel => exact ⟨k + 1, Y28, rfl, by omega, by go_num⟩
      case measure => simp [intOf]; omega
    · have HR := Lib.hid (show hasB S1 (k : Int) = true from HPQ.out)
      have qd0_0 := l11.cell (k := 0) rfl
      have qd0_1 := l11.cell (k := 1) rfl
      have qd0_l := l11.lt
      have qd1_0 := l1.cell (k := 0) rfl
      have qd1_1 := l1.cell (k := 1) rfl
      have qd1_l := l1.lt
      have qd2_0 := l3.cell (k := 0) rfl
      have qd2_1 := l3.cell (k := 1) rfl
      have qd2_l := l3.lt
      go_wp2
      refine Mix.region_mixL (Mix.kinds [] [3, 7, 12] []) (by kernel_rfl) (by kernel_rfl) ?_
      try go_frame
      repeat ((with_reducible refine Mix.atCons ?_); first | refine Mix.skipU (by rfl) rfl (by rfl) ?_ | (refine Mix.val rfl rfl (by rfl) (fun K hK => ?_); go_big_quiet_op; refine hK _ ?_; clear hK K) | (refine Mix.skip (by rfl) ?_; go_frame))
      refine Mix.loud rfl (by rfl) (fun x1 K hK => ?_)
      go_wp2_with fail
      refine (Has_calls _ S1 k _ ((hma.later x1)).s).mono ?_
      rintro e w' ⟨rfl, hw⟩
      rw [hw]
      rw [HR.out]
      refine hK _ (Later.self _) ?_
      clear hK K hw w'
      simp only [Later.self_w]
      try go_frame
      repeat ((with_reducible refine Mix.atCons ?_); first | refine Mix.skipU (by rfl) rfl (by rfl) ?_ | (refine Mix.val rfl rfl (by rfl) (fun K hK => ?_); go_big_quiet_op; refine hK _ ?_; clear hK K) | (refine Mix.skip (by rfl) ?_; go_frame))
      refine Mix.loud rfl (by rfl) (fun x2 K hK => ?_)
      go_wp2_with fail
      refine (Has_calls _ st k _ (((hm.later x1).later x2)).s).mono ?_
      rintro e w' ⟨rfl, hw⟩
      rw [hw]
      rw [HP.out]
      refine hK _ (Later.self _) ?_
      clear hK K hw w'
      simp only [Later.self_w]
      try go_frame
      repeat ((with_reducible refine Mix.atCons ?_); first | refine Mix.skipU (by rfl) rfl (by rfl) ?_ | (refine Mix.val rfl rfl (by rfl) (fun K hK => ?_); go_big_quiet_op; refine hK _ ?_; clear hK K) | (refine Mix.skip (by rfl) ?_; go_frame))
      refine Mix.done (fun x3 => ?_)
      replace hm := (((hm.later x1).later x2).later x3)
      replace hm2 := (((hm2.later x1).later x2).later x3)
      replace hm3 := (((hm3.later x1).later x2).later x3)
      replace l1 := (((l1.later x1).later x2).later x3)
      replace l3 := (((l3.later x1).later x2).later x3)
      replace l5 := (((l5.later x1).later x2).later x3)
      replace hma := (((hma.later x1).later x2).later x3)
      replace l11 := (((l11.later x1).later x2).later x3)
      replace S := (((S.later x1).later x2).later x3)
      obtain ⟨Y28, hZ⟩ : ∃ Z : Later Y27.w, Z.w = x3.w := ⟨u.step (x1.step (x2.step (x3))), rfl⟩
      rw [← hZ] at S hm hm2 hm3 l1 l3 l5 hma l11 ⊢
      clear hZ
      go_wp2
      go_roundw
      case rel => exact ⟨k + 1, Y28, rfl, by omega, by go_num⟩
      case measure => simp [intOf]; omega
    · have HR := Lib.hid (show hasB S1 (k : Int) = true from HPQ.out)
      have qd0_0 := l11.cell (k := 0) rfl
      have qd0_1 := l11.cell (k := 1) rfl
      have qd0_l := l11.lt
      have qd1_0 := l1.cell (k := 0) rfl
      have qd1_1 := l1.cell (k := 1) rfl
      have qd1_l := l1.lt
      have qd2_0 := l3.cell (k := 0) rfl
      have qd2_1 := l3.cell (k := 1) rfl
      have qd2_l := l3.lt
      go_wp2
      refine Mix.region_mixL (Mix.kinds [] [3, 7, 12] []) (by kernel_rfl) (by kernel_rfl) ?_
      try go_frame
      repeat ((with_reducible refine Mix.atCons ?_); first | refine Mix.skipU (by rfl) rfl (by rfl) ?_ | (refine Mix.val rfl rfl (by rfl) (fun K hK => ?_); go_big_quiet_op; refine hK _ ?_; clear hK K) | (refine Mix.skip (by rfl) ?_; go_frame))
      refine Mix.loud rfl (by rfl) (fun x1 K hK => ?_)
      go_wp2_with fail
      refine (Has_calls _ S1 k _ ((hma.later x1)).s).mono ?_
      rintro e w' ⟨rfl, hw⟩
      rw [hw]
      rw [HR.out]
      refine hK _ (Later.self _) ?_
      clear hK K hw w'
      simp only [Later.self_w]
      try go_frame
      repeat ((with_reducible refine Mix.atCons ?_); first | refine Mix.skipU (by rfl) rfl (by rfl) ?_ | (refine Mix.val rfl rfl (by rfl) (fun K hK => ?_); go_big_quiet_op; refine hK _ ?_; clear hK K) | (refine Mix.skip (by rfl) ?_; go_frame))
      refine Mix.loud rfl (by rfl) (fun x2 K hK => ?_)
      go_wp2_with fail
      refine (Has_calls _ st k _ (((hm.later x1).later x2)).s).mono ?_
      rintro e w' ⟨rfl, hw⟩
      rw [hw]
      rw [HP.out]
      refine hK _ (Later.self _) ?_
      clear hK K hw w'
      simp only [Later.self_w]
      try go_frame
      repeat ((with_reducible refine Mix.atCons ?_); first | refine Mix.skipU (by rfl) rfl (by rfl) ?_ | (refine Mix.val rfl rfl (by rfl) (fun K hK => ?_); go_big_quiet_op; refine hK _ ?_; clear hK K) | (refine Mix.skip (by rfl) ?_; go_frame))
      refine Mix.done (fun x3 => ?_)
      replace hm := (((hm.later x1).later x2).later x3)
      replace hm2 := (((hm2.later x1).later x2).later x3)
      replace hm3 := (((hm3.later x1).later x2).later x3)
      replace l1 := (((l1.later x1).later x2).later x3)
      replace l3 := (((l3.later x1).later x2).later x3)
      replace l5 := (((l5.later x1).later x2).later x3)
      replace hma := (((hma.later x1).later x2).later x3)
      replace l11 := (((l11.later x1).later x2).later x3)
      replace S := (((S.later x1).later x2).later x3)
      obtain ⟨Y28, hZ⟩ : ∃ Z : Later Y27.w, Z.w = x3.w := ⟨u.step (x1.step (x2.step (x3))), rfl⟩
      rw [← hZ] at S hm hm2 hm3 l1 l3 l5 hma l11 ⊢
      clear hZ
      go_wp2
      go_roundw
      case rel => exact ⟨k + 1, Y28, rfl, by omega, by go_num⟩
      case measure => simp [intOf]; omega
  have q0_0 := l11.cell (k := 0) rfl
  have q0_1 := l11.cell (k := 1) rfl
  have q0_l := l11.lt
  have q1_0 := l5.cell (k := 0) rfl
  have q1_1 := l5.cell (k := 1) rfl
  have q1_l := l5.lt
  go_wp2_with fail
  clear q0_0 q0_1 q0_l
  clear q1_0 q1_1 q1_l
  by_cases hd : 0 ≤ clashN ad2 ad3
  · have HY := Lib.hid (merge_on HOA.out ok3.out (HH3.out.1 hd))
    have HW := Lib.hid (merge_on ok2.out ok3.out hd)
    clear hd
    refine (Merge_calls l _ _ S1 A1 _ _ st3 ad3 _ hma hm3).mono ?_
    rintro e w' ⟨sv, av, y, rfl, rfl, hmn⟩
    rw [HY.out.2.2]
    rw [HY.out.1, HY.out.2.1] at hmn
    have hmy := hmn
    clear hmn
    obtain ⟨sxy, nsy, csy, rfl⟩ : ∃ a n c, sv = Value.slice a n c := by obtain ⟨a, c, e⟩ := hmy.s.form; exact ⟨a, _, c, e⟩
    obtain ⟨aay, nay, cay, rfl⟩ : ∃ a n c, av = Value.slice a n c := by obtain ⟨a, c, e⟩ := hmy.a.form; exact ⟨a, _, c, e⟩
    replace hm := hm.later y
    replace hm2 := hm2.later y
    replace hm3 := hm3.later y
    replace l1 := l1.later y
    replace l3 := l3.later y
    replace l5 := l5.later y
    replace hma := hma.later y
    replace l11 := l11.later y
    replace S := S.later y
    obtain ⟨Y28, hZ⟩ : ∃ Z : Later Y27.w, Z.w = y.w := ⟨u.step (y), rfl⟩
    rw [← hZ] at S hm hm2 hm3 l1 l3 l5 hma l11 hmy ⊢
    clear hZ
    clear y
    have q0_0 := l3.cell (k := 0) rfl
    have q0_1 := l3.cell (k := 1) rfl
    have q0_l := l3.lt
    have q1_0 := l5.cell (k := 0) rfl
    have q1_1 := l5.cell (k := 1) rfl
    have q1_l := l5.lt
    go_wp2_with fail
    clear q0_0 q0_1 q0_l
    clear q1_0 q1_1 q1_l
    obtain ⟨B29, hb⟩ : ∃ b, b = Y28.w.heap.size := ⟨_, rfl⟩
    have l29 : Lin (Y28.w.alloc (.cells #[.slice sxy nsy csy, .slice aay nay cay] 25)) B29 25 [.slice sxy nsy csy, .slice aay nay cay] := by rw [hb]; exact Lin.new _ _ [.slice sxy nsy csy, .slice aay nay cay]
    replace S := S.later (Later.new _ (.cells #[.slice sxy nsy csy, .slice aay nay cay] 25))
    rw [Later.new_w] at S
    replace hm := hm.later (Later.new _ (.cells #[.slice sxy nsy csy, .slice aay nay cay] 25))
    rw [Later.new_w] at hm
    replace hm2 := hm2.later (Later.new _ (.cells #[.slice sxy nsy csy, .slice aay nay cay] 25))
    rw [Later.new_w] at hm2
    replace hm3 := hm3.later (Later.new _ (.cells #[.slice sxy nsy csy, .slice aay nay cay] 25))
    rw [Later.new_w] at hm3
    replace l1 := l1.later (Later.new _ (.cells #[.slice sxy nsy csy, .slice aay nay cay] 25))
    rw [Later.new_w] at l1
    replace l3 := l3.later (Later.new _ (.cells #[.slice sxy nsy csy, .slice aay nay cay] 25))
    rw [Later.new_w] at l3
    replace l5 := l5.later (Later.new _ (.cells #[.slice sxy nsy csy, .slice aay nay cay] 25))
    rw [Later.new_w] at l5
    replace hma := hma.later (Later.new _ (.cells #[.slice sxy nsy csy, .slice aay nay cay] 25))
    rw [Later.new_w] at hma
    replace l11 := l11.later (Later.new _ (.cells #[.slice sxy nsy csy, .slice aay nay cay] 25))
    rw [Later.new_w] at l11
    replace hmy := hmy.later (Later.new _ (.cells #[.slice sxy nsy csy, .slice aay nay cay] 25))
    rw [Later.new_w] at hmy
    have hsz : (Y28.w.alloc (.cells #[.slice sxy nsy csy, .slice aay nay cay] 25)).heap.size = B29 + 1 := by rw [hb]; simp
    obtain ⟨Y30, hZ⟩ : ∃ Z : Later Y27.w, Z.w = Y28.w.alloc (.cells #[.slice sxy nsy csy, .slice aay nay cay] 25) := ⟨Y28.step (Later.new _ _), rfl⟩
    rw [← hZ] at S hsz hm hm2 hm3 l1 l3 l5 hma l11 hmy l29 ⊢
    clear hZ
    rw [← hb]
    clear hb
    try rw [← hsz]
    clear hsz
    refine (Merge_calls l _ _ st2 ad2 _ _ st3 ad3 _ hm2 hm3).mono ?_
    rintro e w' ⟨sv, av, y, rfl, rfl, hmn⟩
    rw [HW.out.2.2]
    rw [HW.out.1, HW.out.2.1] at hmn
    have hmw := hmn
    clear hmn
    obtain ⟨sxw, nsw, csw, rfl⟩ : ∃ a n c, sv = Value.slice a n c := by obtain ⟨a, c, e⟩ := hmw.s.form; exact ⟨a, _, c, e⟩
    obtain ⟨aaw, naw, caw, rfl⟩ : ∃ a n c, av = Value.slice a n c := by obtain ⟨a, c, e⟩ := hmw.a.form; exact ⟨a, _, c, e⟩
    replace hm := hm.later y
    replace hm2 := hm2.later y
    replace hm3 := hm3.later y
    replace l1 := l1.later y
    replace l3 := l3.later y
    replace l5 := l5.later y
    replace hma := hma.later y
    replace l11 := l11.later y
    replace hmy := hmy.later y
    replace l29 := l29.later y
    replace S := S.later y
    obtain ⟨Y31, hZ⟩ : ∃ Z : Later Y27.w, Z.w = y.w := ⟨Y30.step (y), rfl⟩
    rw [← hZ] at S hm hm2 hm3 l1 l3 l5 hma l11 hmy l29 hmw ⊢
    clear hZ
    clear y
    go_wp2_with fail
    obtain ⟨B32, hb⟩ : ∃ b, b = Y31.w.heap.size := ⟨_, rfl⟩
    have l32 : Lin (Y31.w.alloc (.cells #[.slice sxw nsw csw, .slice aaw naw caw] 25)) B32 25 [.slice sxw nsw csw, .slice aaw naw caw] := by rw [hb]; exact Lin.new _ _ [.slice sxw nsw csw, .slice aaw naw caw]
    replace S := S.later (Later.new _ (.cells #[.slice sxw nsw csw, .slice aaw naw caw] 25))
    rw [Later.new_w] at S
    replace hm := hm.later (Later.new _ (.cells #[.slice sxw nsw csw, .slice aaw naw caw] 25))
    rw [Later.new_w] at hm
    replace hm2 := hm2.later (Later.new _ (.cells #[.slice sxw nsw csw, .slice aaw naw caw] 25))
    rw [Later.new_w] at hm2
    replace hm3 := hm3.later (Later.new _ (.cells #[.slice sxw nsw csw, .slice aaw naw caw] 25))
    rw [Later.new_w] at hm3
    replace l1 := l1.later (Later.new _ (.cells #[.slice sxw nsw csw, .slice aaw naw caw] 25))
    rw [Later.new_w] at l1
    replace l3 := l3.later (Later.new _ (.cells #[.slice sxw nsw csw, .slice aaw naw caw] 25))
    rw [Later.new_w] at l3
    replace l5 := l5.later (Later.new _ (.cells #[.slice sxw nsw csw, .slice aaw naw caw] 25))
    rw [Later.new_w] at l5
    replace hma := hma.later (Later.new _ (.cells #[.slice sxw nsw csw, .slice aaw naw caw] 25))
    rw [Later.new_w] at hma
    replace l11 := l11.later (Later.new _ (.cells #[.slice sxw nsw csw, .slice aaw naw caw] 25))
    rw [Later.new_w] at l11
    replace hmy := hmy.later (Later.new _ (.cells #[.slice sxw nsw csw, .slice aaw naw caw] 25))
    rw [Later.new_w] at hmy
    replace l29 := l29.later (Later.new _ (.cells #[.slice sxw nsw csw, .slice aaw naw caw] 25))
    rw [Later.new_w] at l29
    replace hmw := hmw.later (Later.new _ (.cells #[.slice sxw nsw csw, .slice aaw naw caw] 25))
    rw [Later.new_w] at hmw
    have hsz : (Y31.w.alloc (.cells #[.slice sxw nsw csw, .slice aaw naw caw] 25)).heap.size = B32 + 1 := by rw [hb]; simp
    obtain ⟨Y33, hZ⟩ : ∃ Z : Later Y27.w, Z.w = Y31.w.alloc (.cells #[.slice sxw nsw csw, .slice aaw naw caw] 25) := ⟨Y31.step (Later.new _ _), rfl⟩
    rw [← hZ] at S hsz hm hm2 hm3 l1 l3 l5 hma l11 hmy l29 hmw l32 ⊢
    clear hZ
    rw [← hb]
    clear hb
    try rw [← hsz]
    clear hsz
    refine (Works_calls _).mono ?_
    rintro e w' ⟨rfl, y, rfl⟩
    go_wp2
    go_ret
    exact ⟨rfl, Y27.step (Y33.step (y)), rfl⟩
  have h4 := HH4.out (by omega)
  have hw := merge_off ok2.out ok3.out hd
  have okw := okm_mg ok2.out ok3.out
  obtain ⟨S2, hS2⟩ : ∃ x, mgS st2 st3 l.length = x := ⟨_, rfl⟩
  obtain ⟨A2, hA2⟩ : ∃ x, mgA ad2 ad3 (l.length + 1) = x := ⟨_, rfl⟩
  rw [hS2, hA2] at h4 hw okw
  obtain ⟨E3, hE3⟩ : ∃ x, mergeE l S1 A1 st3 ad3 = x := ⟨_, rfl⟩
  obtain ⟨S3, hS3⟩ : ∃ x, mergeS l S1 A1 st3 ad3 = x := ⟨_, rfl⟩
  obtain ⟨A3, hA3⟩ : ∃ x, mergeA l S1 A1 st3 ad3 = x := ⟨_, rfl⟩
  rw [hS3, hA3, hE3] at h4
  have HY := Lib.hid (And.intro hS3 (And.intro hA3 hE3))
  have HZ := Lib.hid (And.intro h4.1.symm (And.intro h4.2.1.symm h4.2.2.symm))
  have HW := Lib.hid hw
  have HFW := Lib.hid okw.fine
  have heq3 : (E3 == E3) = true := by simp
  clear h4 hw okw hS2 hA2 hE3 hS3 hA3 hd
  refine (Merge_calls l _ _ S1 A1 _ _ st3 ad3 _ hma hm3).mono ?_
  rintro e w' ⟨sv, av, y, rfl, rfl, hmn⟩
  rw [HY.out.2.2]
  rw [HY.out.1, HY.out.2.1] at hmn
  have hmy := hmn
  clear hmn
  obtain ⟨sxy, nsy, csy, rfl⟩ : ∃ a n c, sv = Value.slice a n c := by obtain ⟨a, c, e⟩ := hmy.s.form; exact ⟨a, _, c, e⟩
  obtain ⟨aay, nay, cay, rfl⟩ : ∃ a n c, av = Value.slice a n c := by obtain ⟨a, c, e⟩ := hmy.a.form; exact ⟨a, _, c, e⟩
  replace hm := hm.later y
  replace hm2 := hm2.later y
  replace hm3 := hm3.later y
  replace l1 := l1.later y
  replace l3 := l3.later y
  replace l5 := l5.later y
  replace hma := hma.later y
  replace l11 := l11.later y
  replace S := S.later y
  obtain ⟨Y28, hZ⟩ : ∃ Z : Later Y27.w, Z.w = y.w := ⟨u.step (y), rfl⟩
  rw [← hZ] at S hm hm2 hm3 l1 l3 l5 hma l11 hmy ⊢
  clear hZ
  clear y
  have q0_0 := l3.cell (k := 0) rfl
  have q0_1 := l3.cell (k := 1) rfl
  have q0_l := l3.lt
  have q1_0 := l5.cell (k := 0) rfl
  have q1_1 := l5.cell (k := 1) rfl
  have q1_l := l5.lt
  go_wp2_with fail
  clear q0_0 q0_1 q0_l
  clear q1_0 q1_1 q1_l
  obtain ⟨B29, hb⟩ : ∃ b, b = Y28.w.heap.size := ⟨_, rfl⟩
  have l29 : Lin (Y28.w.alloc (.cells #[.slice sxy nsy csy, .slice aay nay cay] 25)) B29 25 [.slice sxy nsy csy, .slice aay nay cay] := by rw [hb]; exact Lin.new _ _ [.slice sxy nsy csy, .slice aay nay cay]
  replace S := S.later (Later.new _ (.cells #[.slice sxy nsy csy, .slice aay nay cay] 25))
  rw [Later.new_w] at S
  replace hm := hm.later (Later.new _ (.cells #[.slice sxy nsy csy, .slice aay nay cay] 25))
  rw [Later.new_w] at hm
  replace hm2 := hm2.later (Later.new _ (.cells #[.slice sxy nsy csy, .slice aay nay cay] 25))
  rw [Later.new_w] at hm2
  replace hm3 := hm3.later (Later.new _ (.cells #[.slice sxy nsy csy, .slice aay nay cay] 25))
  rw [Later.new_w] at hm3
  replace l1 := l1.later (Later.new _ (.cells #[.slice sxy nsy csy, .slice aay nay cay] 25))
  rw [Later.new_w] at l1
  replace l3 := l3.later (Later.new _ (.cells #[.slice sxy nsy csy, .slice aay nay cay] 25))
  rw [Later.new_w] at l3
  replace l5 := l5.later (Later.new _ (.cells #[.slice sxy nsy csy, .slice aay nay cay] 25))
  rw [Later.new_w] at l5
  replace hma := hma.later (Later.new _ (.cells #[.slice sxy nsy csy, .slice aay nay cay] 25))
  rw [Later.new_w] at hma
  replace l11 := l11.later (Later.new _ (.cells #[.slice sxy nsy csy, .slice aay nay cay] 25))
  rw [Later.new_w] at l11
  replace hmy := hmy.later (Later.new _ (.cells #[.slice sxy nsy csy, .slice aay nay cay] 25))
  rw [Later.new_w] at hmy
  have hsz : (Y28.w.alloc (.cells #[.slice sxy nsy csy, .slice aay nay cay] 25)).heap.size = B29 + 1 := by rw [hb]; simp
  obtain ⟨Y30, hZ⟩ : ∃ Z : Later Y27.w, Z.w = Y28.w.alloc (.cells #[.slice sxy nsy csy, .slice aay nay cay] 25) := ⟨Y28.step (Later.new _ _), rfl⟩
  rw [← hZ] at S hsz hm hm2 hm3 l1 l3 l5 hma l11 hmy l29 ⊢
  clear hZ
  rw [← hb]
  clear hb
  try rw [← hsz]
  clear hsz
  refine (Merge_calls l _ _ st2 ad2 _ _ st3 ad3 _ hm2 hm3).mono ?_
  rintro e w' ⟨sv, av, y, rfl, rfl, hmn⟩
  rw [HW.out.2.2]
  rw [HW.out.1, HW.out.2.1] at hmn
  have hmw := hmn
  clear hmn
  obtain ⟨sxw, nsw, csw, rfl⟩ : ∃ a n c, sv = Value.slice a n c := by obtain ⟨a, c, e⟩ := hmw.s.form; exact ⟨a, _, c, e⟩
  obtain ⟨aaw, naw, caw, rfl⟩ : ∃ a n c, av = Value.slice a n c := by obtain ⟨a, c, e⟩ := hmw.a.form; exact ⟨a, _, c, e⟩
  replace hm := hm.later y
  replace hm2 := hm2.later y
  replace hm3 := hm3.later y
  replace l1 := l1.later y
  replace l3 := l3.later y
  replace l5 := l5.later y
  replace hma := hma.later y
  replace l11 := l11.later y
  replace hmy := hmy.later y
  replace l29 := l29.later y
  replace S := S.later y
  obtain ⟨Y31, hZ⟩ : ∃ Z : Later Y27.w, Z.w = y.w := ⟨Y30.step (y), rfl⟩
  rw [← hZ] at S hm hm2 hm3 l1 l3 l5 hma l11 hmy l29 hmw ⊢
  clear hZ
  clear y
  skip
  go_wp2_with fail
  obtain ⟨B32, hb⟩ : ∃ b, b = Y31.w.heap.size := ⟨_, rfl⟩
  have l32 : Lin (Y31.w.alloc (.cells #[.slice sxw nsw csw, .slice aaw naw caw] 25)) B32 25 [.slice sxw nsw csw, .slice aaw naw caw] := by rw [hb]; exact Lin.new _ _ [.slice sxw nsw csw, .slice aaw naw caw]
  replace S := S.later (Later.new _ (.cells #[.slice sxw nsw csw, .slice aaw naw caw] 25))
  rw [Later.new_w] at S
  replace hm := hm.later (Later.new _ (.cells #[.slice sxw nsw csw, .slice aaw naw caw] 25))
  rw [Later.new_w] at hm
  replace hm2 := hm2.later (Later.new _ (.cells #[.slice sxw nsw csw, .slice aaw naw caw] 25))
  rw [Later.new_w] at hm2
  replace hm3 := hm3.later (Later.new _ (.cells #[.slice sxw nsw csw, .slice aaw naw caw] 25))
  rw [Later.new_w] at hm3
  replace l1 := l1.later (Later.new _ (.cells #[.slice sxw nsw csw, .slice aaw naw caw] 25))
  rw [Later.new_w] at l1
  replace l3 := l3.later (Later.new _ (.cells #[.slice sxw nsw csw, .slice aaw naw caw] 25))
  rw [Later.new_w] at l3
  replace l5 := l5.later (Later.new _ (.cells #[.slice sxw nsw csw, .slice aaw naw caw] 25))
  rw [Later.new_w] at l5
  replace hma := hma.later (Later.new _ (.cells #[.slice sxw nsw csw, .slice aaw naw caw] 25))
  rw [Later.new_w] at hma
  replace l11 := l11.later (Later.new _ (.cells #[.slice sxw nsw csw, .slice aaw naw caw] 25))
  rw [Later.new_w] at l11
  replace hmy := hmy.later (Later.new _ (.cells #[.slice sxw nsw csw, .slice aaw naw caw] 25))
  rw [Later.new_w] at hmy
  replace l29 := l29.later (Later.new _ (.cells #[.slice sxw nsw csw, .slice aaw naw caw] 25))
  rw [Later.new_w] at l29
  replace hmw := hmw.later (Later.new _ (.cells #[.slice sxw nsw csw, .slice aaw naw caw] 25))
  rw [Later.new_w] at hmw
  have hsz : (Y31.w.alloc (.cells #[.slice sxw nsw csw, .slice aaw naw caw] 25)).heap.size = B32 + 1 := by rw [hb]; simp
  obtain ⟨Y33, hZ⟩ : ∃ Z : Later Y27.w, Z.w = Y31.w.alloc (.cells #[.slice sxw nsw csw, .slice aaw naw caw] 25) := ⟨Y31.step (Later.new _ _), rfl⟩
  rw [← hZ] at S hsz hm hm2 hm3 l1 l3 l5 hma l11 hmy l29 hmw l32 ⊢
  clear hZ
  rw [← hb]
  clear hb
  try rw [← hsz]
  clear hsz
  refine (fine_calls l _ _ S2 A2 _ hmw).mono ?_
  rintro e w' ⟨rfl, y, rfl⟩
  rw [HFW.out]
  replace hm := hm.later y
  replace hm2 := hm2.later y
  replace hm3 := hm3.later y
  replace l1 := l1.later y
  replace l3 := l3.later y
  replace l5 := l5.later y
  replace hma := hma.later y
  replace l11 := l11.later y
  replace hmy := hmy.later y
  replace l29 := l29.later y
  replace hmw := hmw.later y
  replace l32 := l32.later y
  replace S := S.later y
  obtain ⟨Y34, hZ⟩ : ∃ Z : Later Y27.w, Z.w = y.w := ⟨Y33.step (y), rfl⟩
  rw [← hZ] at S hm hm2 hm3 l1 l3 l5 hma l11 hmy l29 hmw l32 ⊢
  clear hZ
  clear y
  have q0_0 := l1.cell (k := 0) rfl
  have q0_1 := l1.cell (k := 1) rfl
  have q0_l := l1.lt
  have q1_0 := l32.cell (k := 0) rfl
  have q1_1 := l32.cell (k := 1) rfl
  have q1_l := l32.lt
  go_wp2_with fail
  clear q0_0 q0_1 q0_l
  clear q1_0 q1_1 q1_l
  refine (Merge_calls l _ _ st ad _ _ S2 A2 _ hm hmw).mono ?_
  rintro e w' ⟨sv, av, y, rfl, rfl, hmn⟩
  rw [HZ.out.2.2]
  rw [HZ.out.1, HZ.out.2.1] at hmn
  have hmz := hmn
  clear hmn
  obtain ⟨sxz, nsz, csz, rfl⟩ : ∃ a n c, sv = Value.slice a n c := by obtain ⟨a, c, e⟩ := hmz.s.form; exact ⟨a, _, c, e⟩
  obtain ⟨aaz, naz, caz, rfl⟩ : ∃ a n c, av = Value.slice a n c := by obtain ⟨a, c, e⟩ := hmz.a.form; exact ⟨a, _, c, e⟩
  replace hm := hm.later y
  replace hm2 := hm2.later y
  replace hm3 := hm3.later y
  replace l1 := l1.later y
  replace l3 := l3.later y
  replace l5 := l5.later y
  replace hma := hma.later y
  replace l11 := l11.later y
  replace hmy := hmy.later y
  replace l29 := l29.later y
  replace hmw := hmw.later y
  replace l32 := l32.later y
  replace S := S.later y
  obtain ⟨Y35, hZ⟩ : ∃ Z : Later Y27.w, Z.w = y.w := ⟨Y34.step (y), rfl⟩
  rw [← hZ] at S hm hm2 hm3 l1 l3 l5 hma l11 hmy l29 hmw l32 hmz ⊢
  clear hZ
  clear y
  have q0_0 := l29.cell (k := 0) rfl
  have q0_1 := l29.cell (k := 1) rfl
  have q0_l := l29.lt
  go_wp2_with fail
  clear q0_0 q0_1 q0_l
  obtain ⟨B36, hb⟩ : ∃ b, b = Y35.w.heap.size := ⟨_, rfl⟩
  have l36 : Lin (Y35.w.alloc (.cells #[.slice sxz nsz csz, .slice aaz naz caz] 25)) B36 25 [.slice sxz nsz csz, .slice aaz naz caz] := by rw [hb]; exact Lin.new _ _ [.slice sxz nsz csz, .slice aaz naz caz]
  replace S := S.later (Later.new _ (.cells #[.slice sxz nsz csz, .slice aaz naz caz] 25))
  rw [Later.new_w] at S
  replace hm := hm.later (Later.new _ (.cells #[.slice sxz nsz csz, .slice aaz naz caz] 25))
  rw [Later.new_w] at hm
  replace hm2 := hm2.later (Later.new _ (.cells #[.slice sxz nsz csz, .slice aaz naz caz] 25))
  rw [Later.new_w] at hm2
  replace hm3 := hm3.later (Later.new _ (.cells #[.slice sxz nsz csz, .slice aaz naz caz] 25))
  rw [Later.new_w] at hm3
  replace l1 := l1.later (Later.new _ (.cells #[.slice sxz nsz csz, .slice aaz naz caz] 25))
  rw [Later.new_w] at l1
  replace l3 := l3.later (Later.new _ (.cells #[.slice sxz nsz csz, .slice aaz naz caz] 25))
  rw [Later.new_w] at l3
  replace l5 := l5.later (Later.new _ (.cells #[.slice sxz nsz csz, .slice aaz naz caz] 25))
  rw [Later.new_w] at l5
  replace hma := hma.later (Later.new _ (.cells #[.slice sxz nsz csz, .slice aaz naz caz] 25))
  rw [Later.new_w] at hma
  replace l11 := l11.later (Later.new _ (.cells #[.slice sxz nsz csz, .slice aaz naz caz] 25))
  rw [Later.new_w] at l11
  replace hmy := hmy.later (Later.new _ (.cells #[.slice sxz nsz csz, .slice aaz naz caz] 25))
  rw [Later.new_w] at hmy
  replace l29 := l29.later (Later.new _ (.cells #[.slice sxz nsz csz, .slice aaz naz caz] 25))
  rw [Later.new_w] at l29
  replace hmw := hmw.later (Later.new _ (.cells #[.slice sxz nsz csz, .slice aaz naz caz] 25))
  rw [Later.new_w] at hmw
  replace l32 := l32.later (Later.new _ (.cells #[.slice sxz nsz csz, .slice aaz naz caz] 25))
  rw [Later.new_w] at l32
  replace hmz := hmz.later (Later.new _ (.cells #[.slice sxz nsz csz, .slice aaz naz caz] 25))
  rw [Later.new_w] at hmz
  have hsz : (Y35.w.alloc (.cells #[.slice sxz nsz csz, .slice aaz naz caz] 25)).heap.size = B36 + 1 := by rw [hb]; simp
  obtain ⟨Y37, hZ⟩ : ∃ Z : Later Y27.w, Z.w = Y35.w.alloc (.cells #[.slice sxz nsz csz, .slice aaz naz caz] 25) := ⟨Y35.step (Later.new _ _), rfl⟩
  rw [← hZ] at S hsz hm hm2 hm3 l1 l3 l5 hma l11 hmy l29 hmw l32 hmz l36 ⊢
  clear hZ
  rw [← hb]
  clear hb
  try rw [← hsz]
  clear hsz
  refine (Same_calls _ _ _ _ _ _ _ _ _ hmy hmz).mono ?_
  rintro e w' ⟨rfl, y, rfl⟩
  rw [HSM.out]
  replace hm := hm.later y
  replace hm2 := hm2.later y
  replace hm3 := hm3.later y
  replace l1 := l1.later y
  replace l3 := l3.later y
  replace l5 := l5.later y
  replace hma := hma.later y
  replace l11 := l11.later y
  replace hmy := hmy.later y
  replace l29 := l29.later y
  replace hmw := hmw.later y
  replace l32 := l32.later y
  replace hmz := hmz.later y
  replace l36 := l36.later y
  replace S := S.later y
  obtain ⟨Y38, hZ⟩ : ∃ Z : Later Y27.w, Z.w = y.w := ⟨Y37.step (y), rfl⟩
  rw [← hZ] at S hm hm2 hm3 l1 l3 l5 hma l11 hmy l29 hmw l32 hmz l36 ⊢
  clear hZ
  clear y
  go_wp2_with fail
  refine (Works_calls _).mono ?_
  rintro e w' ⟨rfl, y, rfl⟩
  go_wp2
  go_ret
  exact ⟨rfl, Y27.step (Y38.step (y)), rfl⟩
end Go.Proofs.Ytpkgfkeekcgkcaa
