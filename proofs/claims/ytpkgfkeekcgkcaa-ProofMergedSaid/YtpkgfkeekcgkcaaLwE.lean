import Derived.Test.YtpkgfkeekcgkcaaWrdS
/-  Given marks, and those that are returned. -/
namespace Go.Proofs.Ytpkgfkeekcgkcaa
open Go.RowKit
open Lcs (few len)
theorem Okm.great {l : List UInt8} {st : List Int} {ad : List (List UInt8)} (h : Okm l st ad) (hs : st.length ≤ 25) : greatM st ad = false := by
  have h1 := h.al
  have h2 := h.l12
  have h3 : (ad.any fun s => decide (20 < s.length)) = false := by
    rw [List.any_eq_false]
    intro s hs
    have := h.a12 s hs
    simp; omega
  rw [greatM, h3, decide_eq_false (by omega), decide_eq_false (by omega)]; rfl
theorem Okm.st_le {l : List UInt8} {st : List Int} {ad : List (List UInt8)} (h : Okm l st ad) : st.length ≤ l.length := by
  have h1 := congrArg List.length h.stkE
  rw [List.length_map, strk, List.range_succ, List.filter_append] at h1
  have h2 : ([l.length].filter fun i => decide (i < l.length) && hasB st (i : Int)) = [] := by simp
  rw [h2, List.append_nil] at h1
  rw [← h1]
  exact Nat.le_trans (List.length_filter_le _ _) (by simp)
theorem Okm.fine {l : List UInt8} {st : List Int} {ad : List (List UInt8)} (h : Okm l st ad) : fineM l st ad = true := by
  rw [fineM, h.great (Nat.le_trans h.st_le (by have := h.l12; omega)), h.e, decide_eq_false (by have := h.l12; omega)]; rfl
theorem fine_ok {l : List UInt8} {st : List Int} {ad : List (List UInt8)} (h : fineM l st ad = true) : Okm l st ad := by
  rw [fineM, Bool.and_eq_true, Bool.and_eq_true, decide_eq_true_iff] at h
  exact marks_ok h.2.2
theorem MEnd.fine {a b : List UInt8} {st : List Int} {ad : List (List UInt8)} (h : MEnd a b st ad) : fineM a st ad = true := h.1.fine
theorem Okm.read {l : List UInt8} {st : List Int} {ad : List (List UInt8)} (h : Okm l st ad) : readL l st ad = rd st l ad (l.length + 1) ∧ readN l st ad = (st.length : Int) + (cn ad (l.length + 1) : Nat) ∧ marksE l st ad = 0 :=
  ⟨by rw [readL, if_pos h.e], by rw [readN, if_pos h.e], h.e⟩
set_option maxRecDepth 100000 in
set_option maxHeartbeats 8000000 in
theorem ProofMarked_calls (l : List UInt8) (sv av : Value) (st : List Int) (ad : List (List UInt8)) (o : List UInt8) (W : World) (hm : Mks W sv av st ad) :
    Calls Try.prog 10 #[.string ⟨l.toArray⟩, .agg #[sv, av], .string ⟨o.toArray⟩] W (Gives (.bool true) W) := by
  have S : Ins W [] := Ins.nil _
  obtain ⟨sx, ns, cs, rfl⟩ : ∃ a n c, sv = .slice a n c := by obtain ⟨a, c, e⟩ := hm.s.form; exact ⟨a, _, c, e⟩
  obtain ⟨aa, na, ca, rfl⟩ : ∃ a n c, av = .slice a n c := by obtain ⟨a, c, e⟩ := hm.a.form; exact ⟨a, _, c, e⟩
  have HS := Lib.hid (show ns = st.length by obtain ⟨a, c, e⟩ := hm.s.form; cases e; rfl)
  have HA := Lib.hid (show na = ad.length by obtain ⟨a, c, e⟩ := hm.a.form; cases e; rfl)
  have hsl : ns ≤ 9007199254740992 := by rw [HS.out]; exact hm.s.1
  have hal : na ≤ 9007199254740992 := by rw [HA.out]; exact hm.a.1
  obtain ⟨X, hX⟩ : ∃ X, fineM l st ad = X := ⟨_, rfl⟩
  have HX := Lib.hid hX
  clear hX
  obtain ⟨Z, hZ⟩ : ∃ X, (txtsE l o == 0) = X := ⟨_, rfl⟩
  have HZ := Lib.hid hZ
  clear hZ
  cases X
  · go_enter Try.func10, Try.ntmps10
    go_wp2_with fail
    obtain ⟨B1, hb⟩ : ∃ b, b = W.heap.size := ⟨_, rfl⟩
    have l1 : Lin (W.alloc (.cells #[.slice sx ns cs, .slice aa na ca] 25)) B1 25 [.slice sx ns cs, .slice aa na ca] := by rw [hb]; exact Lin.new _ _ [.slice sx ns cs, .slice aa na ca]
    replace S := S.later (Later.new _ (.cells #[.slice sx ns cs, .slice aa na ca] 25))
    rw [Later.new_w] at S
    replace hm := hm.later (Later.new _ (.cells #[.slice sx ns cs, .slice aa na ca] 25))
    rw [Later.new_w] at hm
    have hsz : (W.alloc (.cells #[.slice sx ns cs, .slice aa na ca] 25)).heap.size = B1 + 1 := by rw [hb]; simp
    obtain ⟨Y2, hZ⟩ : ∃ Z : Later W, Z.w = W.alloc (.cells #[.slice sx ns cs, .slice aa na ca] 25) := ⟨Later.new _ _, rfl⟩
    rw [← hZ] at S hsz hm l1 ⊢
    clear hZ
    rw [← hb]
    clear hb
    try rw [← hsz]
    clear hsz
    have q0_0 := l1.cell (k := 0) rfl
    have q0_1 := l1.cell (k := 1) rfl
    have q0_l := l1.lt
    go_wp2_with fail
    clear q0_0 q0_1 q0_l
    refine (fine_calls l _ _ st ad _ hm).mono ?_
    rintro e w' ⟨rfl, y, rfl⟩
    rw [HX.out]
    replace hm := hm.later y
    replace l1 := l1.later y
    replace S := S.later y
    obtain ⟨Y3, hZ⟩ : ∃ Z : Later W, Z.w = y.w := ⟨Y2.step (y), rfl⟩
    rw [← hZ] at S hm l1 ⊢
    clear hZ
    clear y
    have q0_0 := l1.cell (k := 0) rfl
    have q0_1 := l1.cell (k := 1) rfl
    have q0_l := l1.lt
    go_wp2_with fail
    clear q0_0 q0_1 q0_l
    refine (Works_calls _).mono ?_
    rintro e w' ⟨rfl, y, rfl⟩
    go_wp2
    go_ret
    exact ⟨rfl, Y3.step (y), rfl⟩
  cases Z
  · go_enter Try.func10, Try.ntmps10
    go_wp2_with fail
    obtain ⟨B1, hb⟩ : ∃ b, b = W.heap.size := ⟨_, rfl⟩
    have l1 : Lin (W.alloc (.cells #[.slice sx ns cs, .slice aa na ca] 25)) B1 25 [.slice sx ns cs, .slice aa na ca] := by rw [hb]; exact Lin.new _ _ [.slice sx ns cs, .slice aa na ca]
    replace S := S.later (Later.new _ (.cells #[.slice sx ns cs, .slice aa na ca] 25))
    rw [Later.new_w] at S
    replace hm := hm.later (Later.new _ (.cells #[.slice sx ns cs, .slice aa na ca] 25))
    rw [Later.new_w] at hm
    have hsz : (W.alloc (.cells #[.slice sx ns cs, .slice aa na ca] 25)).heap.size = B1 + 1 := by rw [hb]; simp
    obtain ⟨Y2, hZ⟩ : ∃ Z : Later W, Z.w = W.alloc (.cells #[.slice sx ns cs, .slice aa na ca] 25) := ⟨Later.new _ _, rfl⟩
    rw [← hZ] at S hsz hm l1 ⊢
    clear hZ
    rw [← hb]
    clear hb
    try rw [← hsz]
    clear hsz
    have q0_0 := l1.cell (k := 0) rfl
    have q0_1 := l1.cell (k := 1) rfl
    have q0_l := l1.lt
    go_wp2_with fail
    clear q0_0 q0_1 q0_l
    refine (fine_calls l _ _ st ad _ hm).mono ?_
    rintro e w' ⟨rfl, y, rfl⟩
    rw [HX.out]
    replace hm := hm.later y
    replace l1 := l1.later y
    replace S := S.later y
    obtain ⟨Y3, hZ⟩ : ∃ Z : Later W, Z.w = y.w := ⟨Y2.step (y), rfl⟩
    rw [← hZ] at S hm l1 ⊢
    clear hZ
    clear y
    have q0_0 := l1.cell (k := 0) rfl
    have q0_1 := l1.cell (k := 1) rfl
    have q0_l := l1.lt
    go_wp2_with fail
    clear q0_0 q0_1 q0_l
    refine (texts_calls l o _).mono ?_
    rintro e w' ⟨rfl, hw⟩
    rw [hw, HZ.out]
    clear hw w'
    have q0_0 := l1.cell (k := 0) rfl
    have q0_1 := l1.cell (k := 1) rfl
    have q0_l := l1.lt
    go_wp2_with fail
    clear q0_0 q0_1 q0_l
    refine (Works_calls _).mono ?_
    rintro e w' ⟨rfl, y, rfl⟩
    go_wp2
    go_ret
    exact ⟨rfl, Y3.step (y), rfl⟩
  go_enter Try.func10, Try.ntmps10
  go_wp2_with fail
  obtain ⟨B1, hb⟩ : ∃ b, b = W.heap.size := ⟨_, rfl⟩
  have l1 : Lin (W.alloc (.cells #[.slice sx ns cs, .slice aa na ca] 25)) B1 25 [.slice sx ns cs, .slice aa na ca] := by rw [hb]; exact Lin.new _ _ [.slice sx ns cs, .slice aa na ca]
  replace S := S.later (Later.new _ (.cells #[.slice sx ns cs, .slice aa na ca] 25))
  rw [Later.new_w] at S
  replace hm := hm.later (Later.new _ (.cells #[.slice sx ns cs, .slice aa na ca] 25))
  rw [Later.new_w] at hm
  have hsz : (W.alloc (.cells #[.slice sx ns cs, .slice aa na ca] 25)).heap.size = B1 + 1 := by rw [hb]; simp
  obtain ⟨Y2, hZ⟩ : ∃ Z : Later W, Z.w = W.alloc (.cells #[.slice sx ns cs, .slice aa na ca] 25) := ⟨Later.new _ _, rfl⟩
  rw [← hZ] at S hsz hm l1 ⊢
  clear hZ
  rw [← hb]
  clear hb
  try rw [← hsz]
  clear hsz
  have q0_0 := l1.cell (k := 0) rfl
  have q0_1 := l1.cell (k := 1) rfl
  have q0_l := l1.lt
  go_wp2_with fail
  clear q0_0 q0_1 q0_l
  refine (fine_calls l _ _ st ad _ hm).mono ?_
  rintro e w' ⟨rfl, y, rfl⟩
  rw [HX.out]
  replace hm := hm.later y
  replace l1 := l1.later y
  replace S := S.later y
  obtain ⟨Y3, hZ⟩ : ∃ Z : Later W, Z.w = y.w := ⟨Y2.step (y), rfl⟩
  rw [← hZ] at S hm l1 ⊢
  clear hZ
  clear y
  have q0_0 := l1.cell (k := 0) rfl
  have q0_1 := l1.cell (k := 1) rfl
  have q0_l := l1.lt
  go_wp2_with fail
  clear q0_0 q0_1 q0_l
  refine (texts_calls l o _).mono ?_
  rintro e w' ⟨rfl, hw⟩
  rw [hw, HZ.out]
  clear hw w'
  have hok := fine_ok HX.out
  have hrd := hok.read
  have hfl := hok.few_le
  obtain ⟨V, hV⟩ : ∃ V, rd st l ad (l.length + 1) = V := ⟨_, rfl⟩
  obtain ⟨N, hN⟩ : ∃ N : Nat, st.length + cn ad (l.length + 1) = N := ⟨_, rfl⟩
  rw [show (st.length : Int) + (cn ad (l.length + 1) : Nat) = (N : Int) by rw [← hN]; omega, hV] at hrd
  rw [hV, hN] at hfl
  have HRD := Lib.hid hrd
  have HRO := ReadOf_calls l (.slice sx ns cs) (.slice aa na ca) st ad hok
  rw [hV, show (st.length : Int) + (cn ad (l.length + 1) : Nat) = (N : Int) by rw [← hN]; omega] at HRO
  have HRO := Lib.hid HRO
  have HFL := Lib.hid hfl
  have t0 := txts_beq HZ rfl
  have f0 := fewE_ok t0
  obtain ⟨K, hK⟩ : ∃ K, few l o = K := ⟨_, rfl⟩
  rw [hK] at f0
  have F0 := Lib.hid (And.intro f0 t0)
  have HK := Lib.hid hK
  have hN9 : N ≤ 1000 := by
    rw [← hN]
    have h1 := hok.st_le
    have h2 := hok.l12
    have h3 := hok.cn_len (l.length + 1)
    omega
  clear hok hrd hfl hV hN t0 f0 hK
  have HTX : ∀ X, (txtsE l V == 0) = X → Hid ((txtsE l V == 0) = X) := fun _ h => Lib.hid h
  have q0_0 := l1.cell (k := 0) rfl
  have q0_1 := l1.cell (k := 1) rfl
  have q0_l := l1.lt
  go_wp2_with fail
  clear q0_0 q0_1 q0_l
  refine (Read_calls l _ _ st ad _ hm).mono ?_
  rintro e w' ⟨rfl, y, rfl⟩
  rw [HRD.out.1, HRD.out.2.1, HRD.out.2.2]
  replace hm := hm.later y
  replace l1 := l1.later y
  replace S := S.later y
  obtain ⟨Y4, hZ⟩ : ∃ Z : Later W, Z.w = y.w := ⟨Y3.step (y), rfl⟩
  rw [← hZ] at S hm l1 ⊢
  clear hZ
  clear y
  have q0_0 := l1.cell (k := 0) rfl
  have q0_1 := l1.cell (k := 1) rfl
  have q0_l := l1.lt
  go_wp2_with fail
  clear q0_0 q0_1 q0_l
  refine (HRO.out _ hm).mono ?_
  rintro e w' ⟨rfl, y, rfl⟩
  replace hm := hm.later y
  replace l1 := l1.later y
  replace S := S.later y
  obtain ⟨Y5, hZ⟩ : ∃ Z : Later W, Z.w = y.w := ⟨Y4.step (y), rfl⟩
  rw [← hZ] at S hm l1 ⊢
  clear hZ
  clear y
  obtain ⟨Y, hY⟩ : ∃ X, (txtsE l V == 0) = X := ⟨_, rfl⟩
  have HY := Lib.hid hY
  clear hY HTX
  go_wp2_with fail
  refine (texts_calls l V _).mono ?_
  rintro e w' ⟨rfl, hw⟩
  rw [hw, HY.out]
  clear hw w'
  cases Y
  · go_wp2_with fail
    refine (pMarks_calls l o _).mono ?_
    rintro e w' ⟨sv, av, st2, ad2, y, rfl, rfl, hmn, hok, hno⟩
    rw [F0.out.2] at hok hno ⊢
    have HME := Lib.hid (hok rfl)
    clear hok hno
    have hmx := hmn
    clear hmn
    obtain ⟨sxx, nsx, csx, rfl⟩ : ∃ a n c, sv = Value.slice a n c := by obtain ⟨a, c, e⟩ := hmx.s.form; exact ⟨a, _, c, e⟩
    obtain ⟨aax, nax, cax, rfl⟩ : ∃ a n c, av = Value.slice a n c := by obtain ⟨a, c, e⟩ := hmx.a.form; exact ⟨a, _, c, e⟩
    replace hm := hm.later y
    replace l1 := l1.later y
    replace S := S.later y
    obtain ⟨Y6, hZ⟩ : ∃ Z : Later W, Z.w = y.w := ⟨Y5.step (y), rfl⟩
    rw [← hZ] at S hm l1 hmx ⊢
    clear hZ
    clear y
    have hme := HME.out.read
    rw [HK.out] at hme
    have HM := Lib.hid hme
    have HRO2 := ReadOf_calls l (.slice sxx nsx csx) (.slice aax nax cax) st2 ad2 HME.out.1
    rw [show (st2.length : Int) + (cn ad2 (l.length + 1) : Nat) = (K : Int) by have h1 : st2.length + cn ad2 (l.length + 1) = few l o := HME.out.2.2; rw [HK.out] at h1; omega, HME.out.2.1] at HRO2
    have HRO2 := Lib.hid HRO2
    clear hme
    go_wp2_with fail
    obtain ⟨B7, hb⟩ : ∃ b, b = Y6.w.heap.size := ⟨_, rfl⟩
    have l7 : Lin (Y6.w.alloc (.cells #[.slice sxx nsx csx, .slice aax nax cax] 25)) B7 25 [.slice sxx nsx csx, .slice aax nax cax] := by rw [hb]; exact Lin.new _ _ [.slice sxx nsx csx, .slice aax nax cax]
    replace S := S.later (Later.new _ (.cells #[.slice sxx nsx csx, .slice aax nax cax] 25))
    rw [Later.new_w] at S
    replace hm := hm.later (Later.new _ (.cells #[.slice sxx nsx csx, .slice aax nax cax] 25))
    rw [Later.new_w] at hm
    replace l1 := l1.later (Later.new _ (.cells #[.slice sxx nsx csx, .slice aax nax cax] 25))
    rw [Later.new_w] at l1
    replace hmx := hmx.later (Later.new _ (.cells #[.slice sxx nsx csx, .slice aax nax cax] 25))
    rw [Later.new_w] at hmx
    have hsz : (Y6.w.alloc (.cells #[.slice sxx nsx csx, .slice aax nax cax] 25)).heap.size = B7 + 1 := by rw [hb]; simp
    obtain ⟨Y8, hZ⟩ : ∃ Z : Later W, Z.w = Y6.w.alloc (.cells #[.slice sxx nsx csx, .slice aax nax cax] 25) := ⟨Y6.step (Later.new _ _), rfl⟩
    rw [← hZ] at S hsz hm l1 hmx l7 ⊢
    clear hZ
    rw [← hb]
    clear hb
    try rw [← hsz]
    clear hsz
    refine (Fewest_calls l o _).mono ?_
    rintro e w' ⟨rfl, y, rfl⟩
    rw [F0.out.1, F0.out.2]
    replace hm := hm.later y
    replace l1 := l1.later y
    replace hmx := hmx.later y
    replace l7 := l7.later y
    replace S := S.later y
    obtain ⟨Y9, hZ⟩ : ∃ Z : Later W, Z.w = y.w := ⟨Y8.step (y), rfl⟩
    rw [← hZ] at S hm l1 hmx l7 ⊢
    clear hZ
    clear y
    have q0_0 := l7.cell (k := 0) rfl
    have q0_1 := l7.cell (k := 1) rfl
    have q0_l := l7.lt
    go_wp2_with fail
    clear q0_0 q0_1 q0_l
    refine (CheckMarks_calls l _ _ st2 ad2 _ hmx).mono ?_
    rintro e w' ⟨rfl, y, rfl⟩
    rw [HM.out.2.2]
    replace hm := hm.later y
    replace l1 := l1.later y
    replace hmx := hmx.later y
    replace l7 := l7.later y
    replace S := S.later y
    obtain ⟨Y10, hZ⟩ : ∃ Z : Later W, Z.w = y.w := ⟨Y9.step (y), rfl⟩
    rw [← hZ] at S hm l1 hmx l7 ⊢
    clear hZ
    clear y
    have q0_0 := l7.cell (k := 0) rfl
    have q0_1 := l7.cell (k := 1) rfl
    have q0_l := l7.lt
    go_wp2_with fail
    clear q0_0 q0_1 q0_l
    refine (fine_calls l _ _ st2 ad2 _ hmx).mono ?_
    rintro e w' ⟨rfl, y, rfl⟩
    rw [HME.out.fine]
    replace hm := hm.later y
    replace l1 := l1.later y
    replace hmx := hmx.later y
    replace l7 := l7.later y
    replace S := S.later y
    obtain ⟨Y11, hZ⟩ : ∃ Z : Later W, Z.w = y.w := ⟨Y10.step (y), rfl⟩
    rw [← hZ] at S hm l1 hmx l7 ⊢
    clear hZ
    clear y
    have q0_0 := l7.cell (k := 0) rfl
    have q0_1 := l7.cell (k := 1) rfl
    have q0_l := l7.lt
    go_wp2_with fail
    clear q0_0 q0_1 q0_l
    refine (Read_calls l _ _ st2 ad2 _ hmx).mono ?_
    rintro e w' ⟨rfl, y, rfl⟩
    rw [HM.out.1, HM.out.2.1, HM.out.2.2]
    replace hm := hm.later y
    replace l1 := l1.later y
    replace hmx := hmx.later y
    replace l7 := l7.later y
    replace S := S.later y
    obtain ⟨Y12, hZ⟩ : ∃ Z : Later W, Z.w = y.w := ⟨Y11.step (y), rfl⟩
    rw [← hZ] at S hm l1 hmx l7 ⊢
    clear hZ
    clear y
    have q0_0 := l7.cell (k := 0) rfl
    have q0_1 := l7.cell (k := 1) rfl
    have q0_l := l7.lt
    go_wp2_with fail
    clear q0_0 q0_1 q0_l
    refine (HRO2.out _ hmx).mono ?_
    rintro e w' ⟨rfl, y, rfl⟩
    replace hm := hm.later y
    replace l1 := l1.later y
    replace hmx := hmx.later y
    replace l7 := l7.later y
    replace S := S.later y
    obtain ⟨Y13, hZ⟩ : ∃ Z : Later W, Z.w = y.w := ⟨Y12.step (y), rfl⟩
    rw [← hZ] at S hm l1 hmx l7 ⊢
    clear hZ
    clear y
    go_wp2_with fail
    refine (Works_calls _).mono ?_
    rintro e w' ⟨rfl, y, rfl⟩
    go_wp2
    go_ret
    exact ⟨rfl, Y13.step (y), rfl⟩
  have t1 := txts_beq HY rfl
  have f1 := fewE_ok t1
  obtain ⟨M, hM⟩ : ∃ K, few l V = K := ⟨_, rfl⟩
  have hfl := HFL.out
  rw [hM] at f1 hfl
  have F1 := Lib.hid (And.intro f1 t1)
  have d1 : decide (N < M) = false := decide_eq_false (by omega)
  clear t1 f1 hM hfl
  go_wp2_with fail
  refine (Fewest_calls l V _).mono ?_
  rintro e w' ⟨rfl, y, rfl⟩
  rw [F1.out.1, F1.out.2]
  replace hm := hm.later y
  replace l1 := l1.later y
  replace S := S.later y
  obtain ⟨Y6, hZ⟩ : ∃ Z : Later W, Z.w = y.w := ⟨Y5.step (y), rfl⟩
  rw [← hZ] at S hm l1 ⊢
  clear hZ
  clear y
  go_wp2_with fail
  refine (pMarks_calls l o _).mono ?_
  rintro e w' ⟨sv, av, st2, ad2, y, rfl, rfl, hmn, hok, hno⟩
  rw [F0.out.2] at hok hno ⊢
  have HME := Lib.hid (hok rfl)
  clear hok hno
  have hmx := hmn
  clear hmn
  obtain ⟨sxx, nsx, csx, rfl⟩ : ∃ a n c, sv = Value.slice a n c := by obtain ⟨a, c, e⟩ := hmx.s.form; exact ⟨a, _, c, e⟩
  obtain ⟨aax, nax, cax, rfl⟩ : ∃ a n c, av = Value.slice a n c := by obtain ⟨a, c, e⟩ := hmx.a.form; exact ⟨a, _, c, e⟩
  replace hm := hm.later y
  replace l1 := l1.later y
  replace S := S.later y
  obtain ⟨Y7, hZ⟩ : ∃ Z : Later W, Z.w = y.w := ⟨Y6.step (y), rfl⟩
  rw [← hZ] at S hm l1 hmx ⊢
  clear hZ
  clear y
  have hme := HME.out.read
  rw [HK.out] at hme
  have HM := Lib.hid hme
  have HRO2 := ReadOf_calls l (.slice sxx nsx csx) (.slice aax nax cax) st2 ad2 HME.out.1
  rw [show (st2.length : Int) + (cn ad2 (l.length + 1) : Nat) = (K : Int) by have h1 : st2.length + cn ad2 (l.length + 1) = few l o := HME.out.2.2; rw [HK.out] at h1; omega, HME.out.2.1] at HRO2
  have HRO2 := Lib.hid HRO2
  clear hme
  go_wp2_with fail
  obtain ⟨B8, hb⟩ : ∃ b, b = Y7.w.heap.size := ⟨_, rfl⟩
  have l8 : Lin (Y7.w.alloc (.cells #[.slice sxx nsx csx, .slice aax nax cax] 25)) B8 25 [.slice sxx nsx csx, .slice aax nax cax] := by rw [hb]; exact Lin.new _ _ [.slice sxx nsx csx, .slice aax nax cax]
  replace S := S.later (Later.new _ (.cells #[.slice sxx nsx csx, .slice aax nax cax] 25))
  rw [Later.new_w] at S
  replace hm := hm.later (Later.new _ (.cells #[.slice sxx nsx csx, .slice aax nax cax] 25))
  rw [Later.new_w] at hm
  replace l1 := l1.later (Later.new _ (.cells #[.slice sxx nsx csx, .slice aax nax cax] 25))
  rw [Later.new_w] at l1
  replace hmx := hmx.later (Later.new _ (.cells #[.slice sxx nsx csx, .slice aax nax cax] 25))
  rw [Later.new_w] at hmx
  have hsz : (Y7.w.alloc (.cells #[.slice sxx nsx csx, .slice aax nax cax] 25)).heap.size = B8 + 1 := by rw [hb]; simp
  obtain ⟨Y9, hZ⟩ : ∃ Z : Later W, Z.w = Y7.w.alloc (.cells #[.slice sxx nsx csx, .slice aax nax cax] 25) := ⟨Y7.step (Later.new _ _), rfl⟩
  rw [← hZ] at S hsz hm l1 hmx l8 ⊢
  clear hZ
  rw [← hb]
  clear hb
  try rw [← hsz]
  clear hsz
  refine (Fewest_calls l o _).mono ?_
  rintro e w' ⟨rfl, y, rfl⟩
  rw [F0.out.1, F0.out.2]
  replace hm := hm.later y
  replace l1 := l1.later y
  replace hmx := hmx.later y
  replace l8 := l8.later y
  replace S := S.later y
  obtain ⟨Y10, hZ⟩ : ∃ Z : Later W, Z.w = y.w := ⟨Y9.step (y), rfl⟩
  rw [← hZ] at S hm l1 hmx l8 ⊢
  clear hZ
  clear y
  have q0_0 := l8.cell (k := 0) rfl
  have q0_1 := l8.cell (k := 1) rfl
  have q0_l := l8.lt
  go_wp2_with fail
  clear q0_0 q0_1 q0_l
  refine (CheckMarks_calls l _ _ st2 ad2 _ hmx).mono ?_
  rintro e w' ⟨rfl, y, rfl⟩
  rw [HM.out.2.2]
  replace hm := hm.later y
  replace l1 := l1.later y
  replace hmx := hmx.later y
  replace l8 := l8.later y
  replace S := S.later y
  obtain ⟨Y11, hZ⟩ : ∃ Z : Later W, Z.w = y.w := ⟨Y10.step (y), rfl⟩
  rw [← hZ] at S hm l1 hmx l8 ⊢
  clear hZ
  clear y
  have q0_0 := l8.cell (k := 0) rfl
  have q0_1 := l8.cell (k := 1) rfl
  have q0_l := l8.lt
  go_wp2_with fail
  clear q0_0 q0_1 q0_l
  refine (fine_calls l _ _ st2 ad2 _ hmx).mono ?_
  rintro e w' ⟨rfl, y, rfl⟩
  rw [HME.out.fine]
  replace hm := hm.later y
  replace l1 := l1.later y
  replace hmx := hmx.later y
  replace l8 := l8.later y
  replace S := S.later y
  obtain ⟨Y12, hZ⟩ : ∃ Z : Later W, Z.w = y.w := ⟨Y11.step (y), rfl⟩
  rw [← hZ] at S hm l1 hmx l8 ⊢
  clear hZ
  clear y
  have q0_0 := l8.cell (k := 0) rfl
  have q0_1 := l8.cell (k := 1) rfl
  have q0_l := l8.lt
  go_wp2_with fail
  clear q0_0 q0_1 q0_l
  refine (Read_calls l _ _ st2 ad2 _ hmx).mono ?_
  rintro e w' ⟨rfl, y, rfl⟩
  rw [HM.out.1, HM.out.2.1, HM.out.2.2]
  replace hm := hm.later y
  replace l1 := l1.later y
  replace hmx := hmx.later y
  replace l8 := l8.later y
  replace S := S.later y
  obtain ⟨Y13, hZ⟩ : ∃ Z : Later W, Z.w = y.w := ⟨Y12.step (y), rfl⟩
  rw [← hZ] at S hm l1 hmx l8 ⊢
  clear hZ
  clear y
  have q0_0 := l8.cell (k := 0) rfl
  have q0_1 := l8.cell (k := 1) rfl
  have q0_l := l8.lt
  go_wp2_with fail
  clear q0_0 q0_1 q0_l
  refine (HRO2.out _ hmx).mono ?_
  rintro e w' ⟨rfl, y, rfl⟩
  replace hm := hm.later y
  replace l1 := l1.later y
  replace hmx := hmx.later y
  replace l8 := l8.later y
  replace S := S.later y
  obtain ⟨Y14, hZ⟩ : ∃ Z : Later W, Z.w = y.w := ⟨Y13.step (y), rfl⟩
  rw [← hZ] at S hm l1 hmx l8 ⊢
  clear hZ
  clear y
  go_wp2_with fail
  refine (Works_calls _).mono ?_
  rintro e w' ⟨rfl, y, rfl⟩
  go_wp2
  go_ret
  exact ⟨rfl, Y14.step (y), rfl⟩
end Go.Proofs.Ytpkgfkeekcgkcaa
