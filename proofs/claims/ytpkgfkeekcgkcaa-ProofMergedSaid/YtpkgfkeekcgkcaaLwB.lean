import Derived.Test.YtpkgfkeekcgkcaaLwA
/-  The statements over whatever texts: fewest, commons. -/
namespace Go.Proofs.Ytpkgfkeekcgkcaa
open Go.RowKit
open Lcs (few len CP)
theorem MEnd.read {a b : List UInt8} {st : List Int} {ad : List (List UInt8)} (h : MEnd a b st ad) : readL a st ad = b ∧ readN a st ad = (few a b : Nat) ∧ marksE a st ad = 0 := by
  have h0 := h.1.e
  refine ⟨by rw [readL, if_pos h0]; exact h.2.1, ?_, h0⟩
  have h1 : st.length + cn ad (a.length + 1) = few a b := h.2.2
  rw [readN, if_pos h0]
  omega
set_option maxRecDepth 100000 in
set_option maxHeartbeats 8000000 in
theorem ProofFewests_calls (a b : List UInt8) (W : World) :
    Calls Try.prog 5 #[.string ⟨a.toArray⟩, .string ⟨b.toArray⟩] W (Gives (.bool true) W) := by
  have S : Ins W [] := Ins.nil _
  obtain ⟨X, hX⟩ : ∃ X, decide (20 < a.length) = X := ⟨_, rfl⟩
  have HX := Lib.hid hX
  clear hX
  obtain ⟨Z, hZ⟩ : ∃ X, decide (20 < b.length) = X := ⟨_, rfl⟩
  have HZ := Lib.hid hZ
  clear hZ
  cases X
  rotate_left
  · go_enter Try.func5, Try.ntmps5
    go_wp2_with fail
    refine (llong_calls a _).mono ?_
    rintro e w' ⟨rfl, hw⟩
    rw [hw, HX.out]
    clear hw w'
    go_wp2_with fail
    refine (Works_calls _).mono ?_
    rintro e w' ⟨rfl, y, rfl⟩
    go_wp2
    go_ret
    exact ⟨rfl, y, rfl⟩
  cases Z
  rotate_left
  · go_enter Try.func5, Try.ntmps5
    go_wp2_with fail
    refine (llong_calls a _).mono ?_
    rintro e w' ⟨rfl, hw⟩
    rw [hw, HX.out]
    clear hw w'
    go_wp2_with fail
    refine (llong_calls b _).mono ?_
    rintro e w' ⟨rfl, hw⟩
    rw [hw, HZ.out]
    clear hw w'
    go_wp2_with fail
    refine (Works_calls _).mono ?_
    rintro e w' ⟨rfl, y, rfl⟩
    go_wp2
    go_ret
    exact ⟨rfl, y, rfl⟩
  go_enter Try.func5, Try.ntmps5
  go_wp2_with fail
  refine (llong_calls a _).mono ?_
  rintro e w' ⟨rfl, hw⟩
  rw [hw, HX.out]
  clear hw w'
  go_wp2_with fail
  refine (llong_calls b _).mono ?_
  rintro e w' ⟨rfl, hw⟩
  rw [hw, HZ.out]
  clear hw w'
  obtain ⟨E, hE⟩ : ∃ V, txtsE a b = V := ⟨_, rfl⟩
  obtain ⟨N, hN⟩ : ∃ V, fewE a b = V := ⟨_, rfl⟩
  have HE := Lib.hid hE
  have HN := Lib.hid hN
  clear hE hN
  go_wp2_with fail
  refine (Fewest_calls a b _).mono ?_
  rintro e w' ⟨rfl, y, rfl⟩
  rw [HN.out, HE.out]
  replace S := S.later y
  obtain ⟨Y1, hZ⟩ : ∃ Z : Later W, Z.w = y.w := ⟨y, rfl⟩
  rw [← hZ] at S ⊢
  clear hZ
  clear y
  go_wp2_with fail
  refine (rFewest_calls a b _).mono ?_
  rintro e w' ⟨rfl, y, rfl⟩
  rw [HN.out, HE.out]
  replace S := S.later y
  obtain ⟨Y2, hZ⟩ : ∃ Z : Later W, Z.w = y.w := ⟨Y1.step (y), rfl⟩
  rw [← hZ] at S ⊢
  clear hZ
  clear y
  go_wp2_with fail
  refine (pMarks_calls a b _).mono ?_
  rintro e w' ⟨sv, av, st, ad, y, rfl, rfl, hmn, hok, hno⟩
  rw [HE.out] at hok hno ⊢
  have HOK := Lib.hid hok
  have HNO := Lib.hid hno
  clear hok hno
  have hmx := hmn
  clear hmn
  obtain ⟨sxx, nsx, csx, rfl⟩ : ∃ a n c, sv = Value.slice a n c := by obtain ⟨a, c, e⟩ := hmx.s.form; exact ⟨a, _, c, e⟩
  obtain ⟨aax, nax, cax, rfl⟩ : ∃ a n c, av = Value.slice a n c := by obtain ⟨a, c, e⟩ := hmx.a.form; exact ⟨a, _, c, e⟩
  replace S := S.later y
  obtain ⟨Y3, hZ⟩ : ∃ Z : Later W, Z.w = y.w := ⟨Y2.step (y), rfl⟩
  rw [← hZ] at S hmx ⊢
  clear hZ
  clear y
  by_cases h0 : E = 0
  rotate_left
  · obtain ⟨rfl, rfl⟩ := HNO.out h0
    obtain rfl : nsx = 0 := by obtain ⟨a, c, e⟩ := hmx.s.form; cases e; rfl
    obtain rfl : nax = 0 := by obtain ⟨a, c, e⟩ := hmx.a.form; cases e; rfl
    have hne : (E != 0) = true := by simpa using h0
    clear h0
    go_wp2_with fail
    obtain ⟨B4, hb⟩ : ∃ b, b = Y3.w.heap.size := ⟨_, rfl⟩
    have l4 : Lin (Y3.w.alloc (.cells #[.slice sxx 0 csx, .slice aax 0 cax] 25)) B4 25 [.slice sxx 0 csx, .slice aax 0 cax] := by rw [hb]; exact Lin.new _ _ [.slice sxx 0 csx, .slice aax 0 cax]
    replace S := S.later (Later.new _ (.cells #[.slice sxx 0 csx, .slice aax 0 cax] 25))
    rw [Later.new_w] at S
    replace hmx := hmx.later (Later.new _ (.cells #[.slice sxx 0 csx, .slice aax 0 cax] 25))
    rw [Later.new_w] at hmx
    have hsz : (Y3.w.alloc (.cells #[.slice sxx 0 csx, .slice aax 0 cax] 25)).heap.size = B4 + 1 := by rw [hb]; simp
    obtain ⟨Y5, hZ⟩ : ∃ Z : Later W, Z.w = Y3.w.alloc (.cells #[.slice sxx 0 csx, .slice aax 0 cax] 25) := ⟨Y3.step (Later.new _ _), rfl⟩
    rw [← hZ] at S hsz hmx l4 ⊢
    clear hZ
    rw [← hb]
    clear hb
    try rw [← hsz]
    clear hsz
    refine (Works_calls _).mono ?_
    rintro e w' ⟨rfl, y, rfl⟩
    go_wp2
    go_ret
    exact ⟨rfl, Y5.step (y), rfl⟩
  subst h0
  have HM := Lib.hid (HOK.out rfl).read
  have HN2 := Lib.hid (show ((few a b : Nat) : Int) = N by rw [← HN.out, fewE, if_pos HE.out])
  go_wp2_with fail
  obtain ⟨B4, hb⟩ : ∃ b, b = Y3.w.heap.size := ⟨_, rfl⟩
  have l4 : Lin (Y3.w.alloc (.cells #[.slice sxx nsx csx, .slice aax nax cax] 25)) B4 25 [.slice sxx nsx csx, .slice aax nax cax] := by rw [hb]; exact Lin.new _ _ [.slice sxx nsx csx, .slice aax nax cax]
  replace S := S.later (Later.new _ (.cells #[.slice sxx nsx csx, .slice aax nax cax] 25))
  rw [Later.new_w] at S
  replace hmx := hmx.later (Later.new _ (.cells #[.slice sxx nsx csx, .slice aax nax cax] 25))
  rw [Later.new_w] at hmx
  have hsz : (Y3.w.alloc (.cells #[.slice sxx nsx csx, .slice aax nax cax] 25)).heap.size = B4 + 1 := by rw [hb]; simp
  obtain ⟨Y5, hZ⟩ : ∃ Z : Later W, Z.w = Y3.w.alloc (.cells #[.slice sxx nsx csx, .slice aax nax cax] 25) := ⟨Y3.step (Later.new _ _), rfl⟩
  rw [← hZ] at S hsz hmx l4 ⊢
  clear hZ
  rw [← hb]
  clear hb
  try rw [← hsz]
  clear hsz
  refine (rRead_calls a _ _ st ad _ hmx).mono ?_
  rintro e w' ⟨rfl, y, rfl⟩
  rw [HM.out.1, HM.out.2.1, HM.out.2.2, HN2.out]
  replace hmx := hmx.later y
  replace l4 := l4.later y
  replace S := S.later y
  obtain ⟨Y6, hZ⟩ : ∃ Z : Later W, Z.w = y.w := ⟨Y5.step (y), rfl⟩
  rw [← hZ] at S hmx l4 ⊢
  clear hZ
  clear y
  go_wp2_with fail
  refine (Works_calls _).mono ?_
  rintro e w' ⟨rfl, y, rfl⟩
  go_wp2
  go_ret
  exact ⟨rfl, Y6.step (y), rfl⟩
set_option maxRecDepth 100000 in
set_option maxHeartbeats 8000000 in
theorem ProofCommons_calls (a b : List UInt8) (pv : Value) (ps : List (Int × Int)) (lv : Value) (ls : List Int) (W : World) (hp : Prs W pv ps) (hx : Ints W lv ls) :
    Calls Try.prog 6 #[.string ⟨a.toArray⟩, .string ⟨b.toArray⟩, pv, lv] W (Gives (.bool true) W) := by
  have S : Ins W [] := Ins.nil _
  obtain ⟨pa, pn, pc, rfl⟩ : ∃ a n c, pv = .slice a n c := by obtain ⟨a, c, e⟩ := hp.form; exact ⟨a, _, c, e⟩
  have hpn : pn ≤ 9007199254740992 := by obtain ⟨a, c, e⟩ := hp.form; cases e; exact hp.1
  obtain ⟨la, ln, lc, rfl⟩ : ∃ a n c, lv = .slice a n c := by obtain ⟨a, c, e⟩ := hx.form; exact ⟨a, _, c, e⟩
  have hln : ln ≤ 9007199254740992 := by obtain ⟨a, c, e⟩ := hx.form; cases e; exact hx.1
  obtain ⟨D1, d1⟩ : ∃ X, decide ((30 : Int) < (pn : Int)) = X := ⟨_, rfl⟩
  obtain ⟨D2, d2⟩ : ∃ X, decide ((450 : Int) < (ln : Int)) = X := ⟨_, rfl⟩
  obtain ⟨X, hX⟩ : ∃ X, decide (20 < a.length) = X := ⟨_, rfl⟩
  have HX := Lib.hid hX
  clear hX
  obtain ⟨Z, hZ⟩ : ∃ X, decide (20 < b.length) = X := ⟨_, rfl⟩
  have HZ := Lib.hid hZ
  clear hZ
  cases X
  rotate_left
  · go_enter Try.func6, Try.ntmps6
    go_wp2_with fail
    refine (llong_calls a _).mono ?_
    rintro e w' ⟨rfl, hw⟩
    rw [hw, HX.out]
    clear hw w'
    go_wp2_with fail
    refine (Works_calls _).mono ?_
    rintro e w' ⟨rfl, y, rfl⟩
    go_wp2
    go_ret
    exact ⟨rfl, y, rfl⟩
  cases Z
  rotate_left
  · go_enter Try.func6, Try.ntmps6
    go_wp2_with fail
    refine (llong_calls a _).mono ?_
    rintro e w' ⟨rfl, hw⟩
    rw [hw, HX.out]
    clear hw w'
    go_wp2_with fail
    refine (llong_calls b _).mono ?_
    rintro e w' ⟨rfl, hw⟩
    rw [hw, HZ.out]
    clear hw w'
    go_wp2_with fail
    refine (Works_calls _).mono ?_
    rintro e w' ⟨rfl, y, rfl⟩
    go_wp2
    go_ret
    exact ⟨rfl, y, rfl⟩
  go_enter Try.func6, Try.ntmps6
  go_wp2_with fail
  refine (llong_calls a _).mono ?_
  rintro e w' ⟨rfl, hw⟩
  rw [hw, HX.out]
  clear hw w'
  go_wp2_with fail
  refine (llong_calls b _).mono ?_
  rintro e w' ⟨rfl, hw⟩
  rw [hw, HZ.out]
  clear hw w'
  cases D1
  rotate_left
  · go_wp2_with fail
    refine (Works_calls _).mono ?_
    rintro e w' ⟨rfl, y, rfl⟩
    go_wp2
    go_ret
    exact ⟨rfl, y, rfl⟩
  cases D2
  rotate_left
  · go_wp2_with fail
    refine (Works_calls _).mono ?_
    rintro e w' ⟨rfl, y, rfl⟩
    go_wp2
    go_ret
    exact ⟨rfl, y, rfl⟩
  obtain ⟨i, hi⟩ : ∃ V, ccN a b ps = V := ⟨_, rfl⟩
  have Hi := Lib.hid hi
  clear hi
  obtain ⟨e, he⟩ : ∃ V, ccE a b ps = V := ⟨_, rfl⟩
  have He := Lib.hid he
  clear he
  obtain ⟨m, hm⟩ : ∃ V, lbN a b ls = V := ⟨_, rfl⟩
  have Hm := Lib.hid hm
  clear hm
  obtain ⟨j, hj⟩ : ∃ V, lbE a b ls = V := ⟨_, rfl⟩
  have Hj := Lib.hid hj
  clear hj
  obtain ⟨E, hE⟩ : ∃ V, txtsE a b = V := ⟨_, rfl⟩
  have HE := Lib.hid hE
  clear hE
  go_wp2_with fail
  refine (CheckCommon_calls a b _ ps _ hp).mono ?_
  rintro e w' ⟨rfl, y, rfl⟩
  rw [Hi.out, He.out]
  replace hp := hp.later y
  replace hx := hx.later y
  replace S := S.later y
  obtain ⟨Y1, hZ⟩ : ∃ Z : Later W, Z.w = y.w := ⟨y, rfl⟩
  rw [← hZ] at S hp hx ⊢
  clear hZ
  clear y
  go_wp2_with fail
  refine (rCheckCommon_calls a b _ ps _ hp).mono ?_
  rintro e w' ⟨rfl, y, rfl⟩
  rw [Hi.out, He.out]
  replace hp := hp.later y
  replace hx := hx.later y
  replace S := S.later y
  obtain ⟨Y2, hZ⟩ : ∃ Z : Later W, Z.w = y.w := ⟨Y1.step (y), rfl⟩
  rw [← hZ] at S hp hx ⊢
  clear hZ
  clear y
  go_wp2_with fail
  refine (CheckLabels_calls a b _ ls _ hx).mono ?_
  rintro e w' ⟨rfl, y, rfl⟩
  rw [Hm.out, Hj.out]
  replace hp := hp.later y
  replace hx := hx.later y
  replace S := S.later y
  obtain ⟨Y3, hZ⟩ : ∃ Z : Later W, Z.w = y.w := ⟨Y2.step (y), rfl⟩
  rw [← hZ] at S hp hx ⊢
  clear hZ
  clear y
  go_wp2_with fail
  refine (rCheckLabels_calls a b _ ls _ hx).mono ?_
  rintro e w' ⟨rfl, y, rfl⟩
  rw [Hm.out, Hj.out]
  replace hp := hp.later y
  replace hx := hx.later y
  replace S := S.later y
  obtain ⟨Y4, hZ⟩ : ∃ Z : Later W, Z.w = y.w := ⟨Y3.step (y), rfl⟩
  rw [← hZ] at S hp hx ⊢
  clear hZ
  clear y
  go_wp2_with fail
  refine (Common_calls a b _).mono ?_
  rintro e w' ⟨cv, qs, y, rfl, rfl, hpo, hok, hno⟩
  rw [HE.out] at hok hno ⊢
  have HOK := Lib.hid hok
  have HNO := Lib.hid hno
  clear hok hno
  obtain ⟨ap, np, cp, rfl⟩ : ∃ a n c, cv = Value.slice a n c := by obtain ⟨a, c, e⟩ := hpo.form; exact ⟨a, _, c, e⟩
  replace hp := hp.later y
  replace hx := hx.later y
  replace S := S.later y
  obtain ⟨Y5, hZ⟩ : ∃ Z : Later W, Z.w = y.w := ⟨Y4.step (y), rfl⟩
  rw [← hZ] at S hp hx hpo ⊢
  clear hZ
  clear y
  go_wp2_with fail
  refine (Labels_calls a b _).mono ?_
  rintro e w' ⟨v, y, rfl, rfl, hR⟩
  rw [HE.out]
  replace hp := hp.later y
  replace hx := hx.later y
  replace hpo := hpo.later y
  replace S := S.later y
  obtain ⟨a6, n6, c6, rfl⟩ : ∃ a n c, v = .slice a n c := by obtain ⟨a, c, e⟩ := hR.form; exact ⟨a, _, c, e⟩
  replace S := S.cons hR
  obtain ⟨Y7, hZ⟩ : ∃ Z : Later W, Z.w = y.w := ⟨Y5.step (y), rfl⟩
  rw [← hZ] at S hp hx hpo ⊢
  clear hZ
  clear y hR
  go_wp2_with fail
  refine (rLabels_calls a b _).mono ?_
  rintro e w' ⟨v, y, rfl, rfl, hR⟩
  rw [HE.out]
  replace hp := hp.later y
  replace hx := hx.later y
  replace hpo := hpo.later y
  replace S := S.later y
  obtain ⟨a8, n8, c8, rfl⟩ : ∃ a n c, v = .slice a n c := by obtain ⟨a, c, e⟩ := hR.form; exact ⟨a, _, c, e⟩
  replace S := S.cons hR
  obtain ⟨Y9, hZ⟩ : ∃ Z : Later W, Z.w = y.w := ⟨Y7.step (y), rfl⟩
  rw [← hZ] at S hp hx hpo ⊢
  clear hZ
  clear y hR
  go_wp2_with fail
  refine (Ints_calls _ _ (labelsL a b) (labelsL a b) _ (S.at (v := .slice a6 n6 c6) (xs := (labelsL a b)) (by simp)) (S.at (v := .slice a8 n8 c8) (xs := (labelsL a b)) (by simp))).mono ?_
  rintro e w' ⟨rfl, y, rfl⟩
  rw [decide_eq_true rfl]
  replace hp := hp.later y
  replace hx := hx.later y
  replace hpo := hpo.later y
  replace S := S.later y
  obtain ⟨Y10, hZ⟩ : ∃ Z : Later W, Z.w = y.w := ⟨Y9.step (y), rfl⟩
  rw [← hZ] at S hp hx hpo ⊢
  clear hZ
  clear y
  by_cases h0 : E = 0
  rotate_left
  · have hno := HNO.out h0
    subst hno
    obtain rfl : np = 0 := by obtain ⟨a, c, e⟩ := hpo.form; cases e; rfl
    have hne : (E != 0) = true := by simpa using h0
    clear h0
    go_wp2_with fail
    refine (Works_calls _).mono ?_
    rintro e w' ⟨rfl, y, rfl⟩
    go_wp2
    go_ret
    exact ⟨rfl, Y10.step (y), rfl⟩
  subst h0
  have hok := HOK.out rfl
  have hl := txts_ok HE.out
  have hfe := Lcs.few_eq a b
  obtain ⟨L, hL⟩ : ∃ L, len a b = L := ⟨_, rfl⟩
  obtain ⟨K, hK⟩ : ∃ L, few a b = L := ⟨_, rfl⟩
  obtain ⟨na, hna⟩ : ∃ L, a.length = L := ⟨_, rfl⟩
  obtain ⟨nb, hnb⟩ : ∃ L, b.length = L := ⟨_, rfl⟩
  have HCC := Lib.hid (show ccN a b (qs.map natP) = L ∧ ccE a b (qs.map natP) = 0 by have h := cp_cc HE.out hok.1; exact ⟨by rw [h.2, hok.2, hL], h.1⟩)
  rw [hL, hK, hna, hnb] at hfe
  rw [hna, hnb] at hl
  have HL := Lib.hid hL
  have HK := Lib.hid hK
  have hsa : (⟨a.toArray⟩ : ByteArray).size = na := by rw [str_size]; exact hna
  have hsb : (⟨b.toArray⟩ : ByteArray).size = nb := by rw [str_size]; exact hnb
  have HLN := Lib.hid hl
  have HA := Lib.hid hna
  have HB := Lib.hid hnb
  have h1 := hl.1
  have h2 := hl.2
  have heq : (2 * (L : Int) == (na : Int) + (nb : Int) - (K : Int)) = true := by simp; omega
  have hK24 : K ≤ 24 := by omega
  have hL12 : L ≤ 12 := by omega
  clear hok hL hK hna hnb hfe hl
  go_wp2_with fail
  refine (rCheckCommon_calls a b _ (qs.map natP) _ hpo).mono ?_
  rintro e w' ⟨rfl, y, rfl⟩
  rw [HCC.out.1, HCC.out.2]
  replace hp := hp.later y
  replace hx := hx.later y
  replace hpo := hpo.later y
  replace S := S.later y
  obtain ⟨Y11, hZ⟩ : ∃ Z : Later W, Z.w = y.w := ⟨Y10.step (y), rfl⟩
  rw [← hZ] at S hp hx hpo ⊢
  clear hZ
  clear y
  go_wp2_with fail
  refine (FewestOf_calls a b (by rw [HA.out]; omega) (by rw [HB.out]; omega) _).mono ?_
  rintro e w' ⟨rfl, y, rfl⟩
  rw [HK.out]
  replace hp := hp.later y
  replace hx := hx.later y
  replace hpo := hpo.later y
  replace S := S.later y
  obtain ⟨Y12, hZ⟩ : ∃ Z : Later W, Z.w = y.w := ⟨Y11.step (y), rfl⟩
  rw [← hZ] at S hp hx hpo ⊢
  clear hZ
  clear y
  go_wp2_with fail
  refine (Works_calls _).mono ?_
  rintro e w' ⟨rfl, y, rfl⟩
  go_wp2
  go_ret
  exact ⟨rfl, Y12.step (y), rfl⟩
end Go.Proofs.Ytpkgfkeekcgkcaa
