import Derived.Test.YtpkgfkeekcgkcaaLwF
/-  Back, and back again: the statement's walk. -/
namespace Go.Proofs.Ytpkgfkeekcgkcaa
open Go.RowKit
theorem back_short {l : List UInt8} {st : List Int} {ad : List (List UInt8)} (h : Okm l st ad) {V : List UInt8} (hV : rd st l ad (l.length + 1) = V) (h12 : V.length ≤ 12) :
    backS l st ad = bkS st l ad (l.length + 1) ∧ backA l st ad = bkA st l ad V.length l.length ∧ backE l st ad = 0 := by
  have hE : backE l st ad = 0 := by rw [backE, h.e, if_neg (by simp), hV, txtE, if_neg (by omega)]
  rw [backS, backA, if_pos hE, if_pos hE, hV]; exact ⟨rfl, rfl, hE⟩
theorem back_long {l : List UInt8} {st : List Int} {ad : List (List UInt8)} (h : Okm l st ad) {V : List UInt8} (hV : rd st l ad (l.length + 1) = V) (h12 : 12 < V.length) :
    backS l st ad = [] ∧ backA l st ad = [] ∧ backE l st ad = 7 := by
  have hE : backE l st ad = 7 := by rw [backE, h.e, if_neg (by simp), hV, txtE, if_pos h12]
  rw [backS, backA, hE]; exact ⟨if_neg (by decide), if_neg (by decide), rfl⟩
set_option maxRecDepth 100000 in
set_option maxHeartbeats 8000000 in
theorem ProofBack_calls (l : List UInt8) (sv av : Value) (st : List Int) (ad : List (List UInt8)) (W : World) (hm : Mks W sv av st ad) :
    Calls Try.prog 11 #[.string ⟨l.toArray⟩, .agg #[sv, av]] W (Gives (.bool true) W) := by
  have S : Ins W [] := Ins.nil _
  obtain ⟨sx, ns, cs, rfl⟩ : ∃ a n c, sv = .slice a n c := by obtain ⟨a, c, e⟩ := hm.s.form; exact ⟨a, _, c, e⟩
  obtain ⟨aa, na, ca, rfl⟩ : ∃ a n c, av = .slice a n c := by obtain ⟨a, c, e⟩ := hm.a.form; exact ⟨a, _, c, e⟩
  have HS := Lib.hid (show ns = st.length by obtain ⟨a, c, e⟩ := hm.s.form; cases e; rfl)
  have HA := Lib.hid (show na = ad.length by obtain ⟨a, c, e⟩ := hm.a.form; cases e; rfl)
  have hsl : ns ≤ 9007199254740992 := by rw [HS.out]; exact hm.s.1
  have hal : na ≤ 9007199254740992 := by rw [HA.out]; exact hm.a.1
  obtain ⟨X, hX⟩ : ∃ X, fineM l st ad = X := ⟨_, rfl⟩
  have HX := Lib.hid hX
  clear hX
  cases X
  · go_enter Try.func11, Try.ntmps11
    go_wp2_with fail
    obtain ⟨B1, hb⟩ : ∃ b, b = W.heap.size := ⟨_, rfl⟩
    have l1 : Lin (W.alloc (.cells #[.slice sx ns cs, .slice aa na ca] 25)) B1 25 [.slice sx ns cs, .slice aa na ca] := by rw [hb]; exact Lin.new _ _ [.slice sx ns cs, .slice aa na ca]
    replace S := S.later (Later.new _ (.cells #[.slice sx ns cs, .slice aa na ca] 25))
    rw [Later.new_w] at S
    replace hm := hm.later (Later.new _ (.cells #[.slice sx ns cs, .slice aa na ca] 25))
    rw [Later.new_w] at hm
    have hsz : (W.alloc (.cells #[.slice sx ns cs, .slice aa na ca] 25)).heap.size = B1 + 1 := by rw [hb]; simp
    obtain ⟨Y2, hZ⟩ : ∃ Z : Later W, Z.w = W.alloc (.cells #[.slice sx ns cs, .slice aa na ca] 25) := ⟨Later.new _ _, rfl⟩
    rw [← hZ] at S hsz hm l1 ⊢
    clear hZ
    rw [← hb]
    clear hb
    try rw [← hsz]
    clear hsz
    have q0_0 := l1.cell (k := 0) rfl
    have q0_1 := l1.cell (k := 1) rfl
    have q0_l := l1.lt
    go_wp2_with fail
    clear q0_0 q0_1 q0_l
    refine (fine_calls l _ _ st ad _ hm).mono ?_
    rintro e w' ⟨rfl, y, rfl⟩
    rw [HX.out]
    replace hm := hm.later y
    replace l1 := l1.later y
    replace S := S.later y
    obtain ⟨Y3, hZ⟩ : ∃ Z : Later W, Z.w = y.w := ⟨Y2.step (y), rfl⟩
    rw [← hZ] at S hm l1 ⊢
    clear hZ
    clear y
    have q0_0 := l1.cell (k := 0) rfl
    have q0_1 := l1.cell (k := 1) rfl
    have q0_l := l1.lt
    go_wp2_with fail
    clear q0_0 q0_1 q0_l
    refine (Works_calls _).mono ?_
    rintro e w' ⟨rfl, y, rfl⟩
    go_wp2
    go_ret
    exact ⟨rfl, Y3.step (y), rfl⟩
  go_enter Try.func11, Try.ntmps11
  go_wp2_with fail
  obtain ⟨B1, hb⟩ : ∃ b, b = W.heap.size := ⟨_, rfl⟩
  have l1 : Lin (W.alloc (.cells #[.slice sx ns cs, .slice aa na ca] 25)) B1 25 [.slice sx ns cs, .slice aa na ca] := by rw [hb]; exact Lin.new _ _ [.slice sx ns cs, .slice aa na ca]
  replace S := S.later (Later.new _ (.cells #[.slice sx ns cs, .slice aa na ca] 25))
  rw [Later.new_w] at S
  replace hm := hm.later (Later.new _ (.cells #[.slice sx ns cs, .slice aa na ca] 25))
  rw [Later.new_w] at hm
  have hsz : (W.alloc (.cells #[.slice sx ns cs, .slice aa na ca] 25)).heap.size = B1 + 1 := by rw [hb]; simp
  obtain ⟨Y2, hZ⟩ : ∃ Z : Later W, Z.w = W.alloc (.cells #[.slice sx ns cs, .slice aa na ca] 25) := ⟨Later.new _ _, rfl⟩
  rw [← hZ] at S hsz hm l1 ⊢
  clear hZ
  rw [← hb]
  clear hb
  try rw [← hsz]
  clear hsz
  have q0_0 := l1.cell (k := 0) rfl
  have q0_1 := l1.cell (k := 1) rfl
  have q0_l := l1.lt
  go_wp2_with fail
  clear q0_0 q0_1 q0_l
  refine (fine_calls l _ _ st ad _ hm).mono ?_
  rintro e w' ⟨rfl, y, rfl⟩
  rw [HX.out]
  replace hm := hm.later y
  replace l1 := l1.later y
  replace S := S.later y
  obtain ⟨Y3, hZ⟩ : ∃ Z : Later W, Z.w = y.w := ⟨Y2.step (y), rfl⟩
  rw [← hZ] at S hm l1 ⊢
  clear hZ
  clear y
  have hok := fine_ok HX.out
  obtain ⟨V, hV⟩ : ∃ V, rd st l ad (l.length + 1) = V := ⟨_, rfl⟩
  obtain ⟨N, hN⟩ : ∃ N : Nat, st.length + cn ad (l.length + 1) = N := ⟨_, rfl⟩
  have HRO := ReadOf_calls l (.slice sx ns cs) (.slice aa na ca) st ad hok
  rw [hV, show (st.length : Int) + (cn ad (l.length + 1) : Nat) = (N : Int) by rw [← hN]; omega] at HRO
  have HRO := Lib.hid HRO
  by_cases h12 : 12 < V.length
  · have HBK := Lib.hid (back_long hok hV h12)
    have HT := Lib.hid (show txtE V = 7 by rw [txtE, if_pos h12])
    clear hok hV hN h12
    have q0_0 := l1.cell (k := 0) rfl
    have q0_1 := l1.cell (k := 1) rfl
    have q0_l := l1.lt
    go_wp2_with fail
    clear q0_0 q0_1 q0_l
    refine (Back_calls l _ _ st ad _ hm).mono ?_
    rintro e w' ⟨sv, av, y, rfl, rfl, hmn⟩
    rw [HBK.out.2.2]
    rw [HBK.out.1, HBK.out.2.1] at hmn
    have hmx := hmn
    clear hmn
    obtain ⟨sxx, nsx, csx, rfl⟩ : ∃ a n c, sv = Value.slice a n c := by obtain ⟨a, c, e⟩ := hmx.s.form; exact ⟨a, _, c, e⟩
    obtain ⟨aax, nax, cax, rfl⟩ : ∃ a n c, av = Value.slice a n c := by obtain ⟨a, c, e⟩ := hmx.a.form; exact ⟨a, _, c, e⟩
    replace hm := hm.later y
    replace l1 := l1.later y
    replace S := S.later y
    obtain ⟨Y4, hZ⟩ : ∃ Z : Later W, Z.w = y.w := ⟨Y3.step (y), rfl⟩
    rw [← hZ] at S hm l1 hmx ⊢
    clear hZ
    clear y
    obtain rfl : nsx = 0 := by obtain ⟨a, c, e⟩ := hmx.s.form; cases e; rfl
    obtain rfl : nax = 0 := by obtain ⟨a, c, e⟩ := hmx.a.form; cases e; rfl
    have q0_0 := l1.cell (k := 0) rfl
    have q0_1 := l1.cell (k := 1) rfl
    have q0_l := l1.lt
    go_wp2_with fail
    clear q0_0 q0_1 q0_l
    obtain ⟨B5, hb⟩ : ∃ b, b = Y4.w.heap.size := ⟨_, rfl⟩
    have l5 : Lin (Y4.w.alloc (.cells #[.slice sxx 0 csx, .slice aax 0 cax] 25)) B5 25 [.slice sxx 0 csx, .slice aax 0 cax] := by rw [hb]; exact Lin.new _ _ [.slice sxx 0 csx, .slice aax 0 cax]
    replace S := S.later (Later.new _ (.cells #[.slice sxx 0 csx, .slice aax 0 cax] 25))
    rw [Later.new_w] at S
    replace hm := hm.later (Later.new _ (.cells #[.slice sxx 0 csx, .slice aax 0 cax] 25))
    rw [Later.new_w] at hm
    replace l1 := l1.later (Later.new _ (.cells #[.slice sxx 0 csx, .slice aax 0 cax] 25))
    rw [Later.new_w] at l1
    replace hmx := hmx.later (Later.new _ (.cells #[.slice sxx 0 csx, .slice aax 0 cax] 25))
    rw [Later.new_w] at hmx
    have hsz : (Y4.w.alloc (.cells #[.slice sxx 0 csx, .slice aax 0 cax] 25)).heap.size = B5 + 1 := by rw [hb]; simp
    obtain ⟨Y6, hZ⟩ : ∃ Z : Later W, Z.w = Y4.w.alloc (.cells #[.slice sxx 0 csx, .slice aax 0 cax] 25) := ⟨Y4.step (Later.new _ _), rfl⟩
    rw [← hZ] at S hsz hm l1 hmx l5 ⊢
    clear hZ
    rw [← hb]
    clear hb
    try rw [← hsz]
    clear hsz
    refine (HRO.out _ hm).mono ?_
    rintro e w' ⟨rfl, y, rfl⟩
    replace hm := hm.later y
    replace l1 := l1.later y
    replace hmx := hmx.later y
    replace l5 := l5.later y
    replace S := S.later y
    obtain ⟨Y7, hZ⟩ : ∃ Z : Later W, Z.w = y.w := ⟨Y6.step (y), rfl⟩
    rw [← hZ] at S hm l1 hmx l5 ⊢
    clear hZ
    clear y
    go_wp2_with fail
    refine (CheckText_calls V _).mono ?_
    rintro e w' ⟨rfl, hw⟩
    rw [hw, HT.out]
    clear hw w'
    have q0_0 := l5.cell (k := 0) rfl
    have q0_1 := l5.cell (k := 1) rfl
    have q0_l := l5.lt
    go_wp2_with fail
    clear q0_0 q0_1 q0_l
    refine (Works_calls _).mono ?_
    rintro e w' ⟨rfl, y, rfl⟩
    go_wp2
    go_ret
    exact ⟨rfl, Y7.step (y), rfl⟩
  obtain ⟨bs, hbs⟩ : ∃ V, bkS st l ad (l.length + 1) = V := ⟨_, rfl⟩
  obtain ⟨ba, hba⟩ : ∃ W, bkA st l ad V.length l.length = W := ⟨_, rfl⟩
  have hbk := back_short hok hV (by omega)
  obtain ⟨ok2, hr2, hc2, hs2, ha2⟩ := hok.back hV (by omega)
  rw [hbs, hba] at hbk hr2 hc2 hs2 ha2 ok2
  rw [hN] at hc2
  have hb2 := back_short ok2 hr2 hok.l12
  rw [hs2, ha2] at hb2
  have hrd := ok2.read
  rw [hr2, show (bs.length : Int) + (cn ba (V.length + 1) : Nat) = (N : Int) by rw [← hc2]; omega] at hrd
  have HBK := Lib.hid hbk
  have HB2 := Lib.hid hb2
  have HRD := Lib.hid hrd
  have HFI := Lib.hid ok2.fine
  have HT := Lib.hid (show txtE V = 0 by rw [txtE, if_neg (by omega)])
  have HSM := Lib.hid (sameM_self st ad)
  clear hok hV hN h12 hbs hba hbk ok2 hr2 hc2 hs2 ha2 hb2 hrd
  have q0_0 := l1.cell (k := 0) rfl
  have q0_1 := l1.cell (k := 1) rfl
  have q0_l := l1.lt
  go_wp2_with fail
  clear q0_0 q0_1 q0_l
  refine (Back_calls l _ _ st ad _ hm).mono ?_
  rintro e w' ⟨sv, av, y, rfl, rfl, hmn⟩
  rw [HBK.out.2.2]
  rw [HBK.out.1, HBK.out.2.1] at hmn
  have hmx := hmn
  clear hmn
  obtain ⟨sxx, nsx, csx, rfl⟩ : ∃ a n c, sv = Value.slice a n c := by obtain ⟨a, c, e⟩ := hmx.s.form; exact ⟨a, _, c, e⟩
  obtain ⟨aax, nax, cax, rfl⟩ : ∃ a n c, av = Value.slice a n c := by obtain ⟨a, c, e⟩ := hmx.a.form; exact ⟨a, _, c, e⟩
  replace hm := hm.later y
  replace l1 := l1.later y
  replace S := S.later y
  obtain ⟨Y4, hZ⟩ : ∃ Z : Later W, Z.w = y.w := ⟨Y3.step (y), rfl⟩
  rw [← hZ] at S hm l1 hmx ⊢
  clear hZ
  clear y
  have q0_0 := l1.cell (k := 0) rfl
  have q0_1 := l1.cell (k := 1) rfl
  have q0_l := l1.lt
  go_wp2_with fail
  clear q0_0 q0_1 q0_l
  obtain ⟨B5, hb⟩ : ∃ b, b = Y4.w.heap.size := ⟨_, rfl⟩
  have l5 : Lin (Y4.w.alloc (.cells #[.slice sxx nsx csx, .slice aax nax cax] 25)) B5 25 [.slice sxx nsx csx, .slice aax nax cax] := by rw [hb]; exact Lin.new _ _ [.slice sxx nsx csx, .slice aax nax cax]
  replace S := S.later (Later.new _ (.cells #[.slice sxx nsx csx, .slice aax nax cax] 25))
  rw [Later.new_w] at S
  replace hm := hm.later (Later.new _ (.cells #[.slice sxx nsx csx, .slice aax nax cax] 25))
  rw [Later.new_w] at hm
  replace l1 := l1.later (Later.new _ (.cells #[.slice sxx nsx csx, .slice aax nax cax] 25))
  rw [Later.new_w] at l1
  replace hmx := hmx.later (Later.new _ (.cells #[.slice sxx nsx csx, .slice aax nax cax] 25))
  rw [Later.new_w] at hmx
  have hsz : (Y4.w.alloc (.cells #[.slice sxx nsx csx, .slice aax nax cax] 25)).heap.size = B5 + 1 := by rw [hb]; simp
  obtain ⟨Y6, hZ⟩ : ∃ Z : Later W, Z.w = Y4.w.alloc (.cells #[.slice sxx nsx csx, .slice aax nax cax] 25) := ⟨Y4.step (Later.new _ _), rfl⟩
  rw [← hZ] at S hsz hm l1 hmx l5 ⊢
  clear hZ
  rw [← hb]
  clear hb
  try rw [← hsz]
  clear hsz
  refine (HRO.out _ hm).mono ?_
  rintro e w' ⟨rfl, y, rfl⟩
  replace hm := hm.later y
  replace l1 := l1.later y
  replace hmx := hmx.later y
  replace l5 := l5.later y
  replace S := S.later y
  obtain ⟨Y7, hZ⟩ : ∃ Z : Later W, Z.w = y.w := ⟨Y6.step (y), rfl⟩
  rw [← hZ] at S hm l1 hmx l5 ⊢
  clear hZ
  clear y
  go_wp2_with fail
  refine (CheckText_calls V _).mono ?_
  rintro e w' ⟨rfl, hw⟩
  rw [hw, HT.out]
  clear hw w'
  have q0_0 := l5.cell (k := 0) rfl
  have q0_1 := l5.cell (k := 1) rfl
  have q0_l := l5.lt
  go_wp2_with fail
  clear q0_0 q0_1 q0_l
  refine (fine_calls V _ _ bs ba _ hmx).mono ?_
  rintro e w' ⟨rfl, y, rfl⟩
  rw [HFI.out]
  replace hm := hm.later y
  replace l1 := l1.later y
  replace hmx := hmx.later y
  replace l5 := l5.later y
  replace S := S.later y
  obtain ⟨Y8, hZ⟩ : ∃ Z : Later W, Z.w = y.w := ⟨Y7.step (y), rfl⟩
  rw [← hZ] at S hm l1 hmx l5 ⊢
  clear hZ
  clear y
  have q0_0 := l5.cell (k := 0) rfl
  have q0_1 := l5.cell (k := 1) rfl
  have q0_l := l5.lt
  go_wp2_with fail
  clear q0_0 q0_1 q0_l
  refine (Read_calls V _ _ bs ba _ hmx).mono ?_
  rintro e w' ⟨rfl, y, rfl⟩
  rw [HRD.out.1, HRD.out.2.1, HRD.out.2.2]
  replace hm := hm.later y
  replace l1 := l1.later y
  replace hmx := hmx.later y
  replace l5 := l5.later y
  replace S := S.later y
  obtain ⟨Y9, hZ⟩ : ∃ Z : Later W, Z.w = y.w := ⟨Y8.step (y), rfl⟩
  rw [← hZ] at S hm l1 hmx l5 ⊢
  clear hZ
  clear y
  have q0_0 := l5.cell (k := 0) rfl
  have q0_1 := l5.cell (k := 1) rfl
  have q0_l := l5.lt
  go_wp2_with fail
  clear q0_0 q0_1 q0_l
  refine (Back_calls V _ _ bs ba _ hmx).mono ?_
  rintro e w' ⟨sv, av, y, rfl, rfl, hmn⟩
  rw [HB2.out.2.2]
  rw [HB2.out.1, HB2.out.2.1] at hmn
  have hmy := hmn
  clear hmn
  obtain ⟨sxy, nsy, csy, rfl⟩ : ∃ a n c, sv = Value.slice a n c := by obtain ⟨a, c, e⟩ := hmy.s.form; exact ⟨a, _, c, e⟩
  obtain ⟨aay, nay, cay, rfl⟩ : ∃ a n c, av = Value.slice a n c := by obtain ⟨a, c, e⟩ := hmy.a.form; exact ⟨a, _, c, e⟩
  replace hm := hm.later y
  replace l1 := l1.later y
  replace hmx := hmx.later y
  replace l5 := l5.later y
  replace S := S.later y
  obtain ⟨Y10, hZ⟩ : ∃ Z : Later W, Z.w = y.w := ⟨Y9.step (y), rfl⟩
  rw [← hZ] at S hm l1 hmx l5 hmy ⊢
  clear hZ
  clear y
  have q0_0 := l1.cell (k := 0) rfl
  have q0_1 := l1.cell (k := 1) rfl
  have q0_l := l1.lt
  go_wp2_with fail
  clear q0_0 q0_1 q0_l
  obtain ⟨B11, hb⟩ : ∃ b, b = Y10.w.heap.size := ⟨_, rfl⟩
  have l11 : Lin (Y10.w.alloc (.cells #[.slice sxy nsy csy, .slice aay nay cay] 25)) B11 25 [.slice sxy nsy csy, .slice aay nay cay] := by rw [hb]; exact Lin.new _ _ [.slice sxy nsy csy, .slice aay nay cay]
  replace S := S.later (Later.new _ (.cells #[.slice sxy nsy csy, .slice aay nay cay] 25))
  rw [Later.new_w] at S
  replace hm := hm.later (Later.new _ (.cells #[.slice sxy nsy csy, .slice aay nay cay] 25))
  rw [Later.new_w] at hm
  replace l1 := l1.later (Later.new _ (.cells #[.slice sxy nsy csy, .slice aay nay cay] 25))
  rw [Later.new_w] at l1
  replace hmx := hmx.later (Later.new _ (.cells #[.slice sxy nsy csy, .slice aay nay cay] 25))
  rw [Later.new_w] at hmx
  replace l5 := l5.later (Later.new _ (.cells #[.slice sxy nsy csy, .slice aay nay cay] 25))
  rw [Later.new_w] at l5
  replace hmy := hmy.later (Later.new _ (.cells #[.slice sxy nsy csy, .slice aay nay cay] 25))
  rw [Later.new_w] at hmy
  have hsz : (Y10.w.alloc (.cells #[.slice sxy nsy csy, .slice aay nay cay] 25)).heap.size = B11 + 1 := by rw [hb]; simp
  obtain ⟨Y12, hZ⟩ : ∃ Z : Later W, Z.w = Y10.w.alloc (.cells #[.slice sxy nsy csy, .slice aay nay cay] 25) := ⟨Y10.step (Later.new _ _), rfl⟩
  rw [← hZ] at S hsz hm l1 hmx l5 hmy l11 ⊢
  clear hZ
  rw [← hb]
  clear hb
  try rw [← hsz]
  clear hsz
  refine (Same_calls _ _ _ _ _ _ _ _ _ hmy hm).mono ?_
  rintro e w' ⟨rfl, y, rfl⟩
  rw [HSM.out]
  replace hm := hm.later y
  replace l1 := l1.later y
  replace hmx := hmx.later y
  replace l5 := l5.later y
  replace hmy := hmy.later y
  replace l11 := l11.later y
  replace S := S.later y
  obtain ⟨Y13, hZ⟩ : ∃ Z : Later W, Z.w = y.w := ⟨Y12.step (y), rfl⟩
  rw [← hZ] at S hm l1 hmx l5 hmy l11 ⊢
  clear hZ
  clear y
  go_wp2_with fail
  refine (Works_calls _).mono ?_
  rintro e w' ⟨rfl, y, rfl⟩
  go_wp2
  go_ret
  exact ⟨rfl, Y13.step (y), rfl⟩
end Go.Proofs.Ytpkgfkeekcgkcaa
