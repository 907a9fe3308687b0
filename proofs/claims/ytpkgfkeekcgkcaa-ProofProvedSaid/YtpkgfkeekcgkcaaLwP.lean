import Derived.Test.YtpkgfkeekcgkcaaProvT
import Derived.Test.YtpkgfkeekcgkcaaLwC
/-  The stage's theorem: the statement's walk. -/
namespace Go.Proofs.Ytpkgfkeekcgkcaa
open Go.RowKit
open Lcs (few len CP)
set_option maxRecDepth 100000 in
set_option maxHeartbeats 8000000 in
theorem ProofProved_calls (a b : List UInt8) (bv : Value) (bs : List Int) (lv : Value) (ls : List Int) (W : World) (hb : Byts W bv bs) (hx : Ints W lv ls) :
    Calls Try.prog 8 #[.string ⟨a.toArray⟩, .string ⟨b.toArray⟩, bv, lv] W (Gives (.bool true) W) := by
  have S : Ins W [] := Ins.nil _
  obtain ⟨ba, bn, bc, rfl⟩ : ∃ a n c, bv = .slice a n c := by obtain ⟨a, c, e⟩ := hb.form; exact ⟨a, _, c, e⟩
  have hbn : bn ≤ 9007199254740992 := by obtain ⟨a, c, e⟩ := hb.form; cases e; exact hb.1
  obtain ⟨la, ln, lc, rfl⟩ : ∃ a n c, lv = .slice a n c := by obtain ⟨a, c, e⟩ := hx.form; exact ⟨a, _, c, e⟩
  have hln : ln ≤ 9007199254740992 := by obtain ⟨a, c, e⟩ := hx.form; cases e; exact hx.1
  obtain ⟨D1, d1⟩ : ∃ X, decide ((150 : Int) < (bn : Int)) = X := ⟨_, rfl⟩
  obtain ⟨D2, d2⟩ : ∃ X, decide ((150 : Int) < (ln : Int)) = X := ⟨_, rfl⟩
  obtain ⟨Z, hZ⟩ : ∃ X, (txtsE a b == 0) = X := ⟨_, rfl⟩
  have HZ := Lib.hid hZ
  clear hZ
  cases Z
  · go_enter Try.func8, Try.ntmps8
    go_wp2_with fail
    refine (texts_calls a b _).mono ?_
    rintro e w' ⟨rfl, hw⟩
    rw [hw, HZ.out]
    clear hw w'
    go_wp2_with fail
    refine (Works_calls _).mono ?_
    rintro e w' ⟨rfl, y, rfl⟩
    go_wp2
    go_ret
    exact ⟨rfl, y, rfl⟩
  go_enter Try.func8, Try.ntmps8
  go_wp2_with fail
  refine (texts_calls a b _).mono ?_
  rintro e w' ⟨rfl, hw⟩
  rw [hw, HZ.out]
  clear hw w'
  cases D1
  rotate_left
  · go_wp2_with fail
    refine (Works_calls _).mono ?_
    rintro e w' ⟨rfl, y, rfl⟩
    go_wp2
    go_ret
    exact ⟨rfl, y, rfl⟩
  cases D2
  rotate_left
  · go_wp2_with fail
    refine (Works_calls _).mono ?_
    rintro e w' ⟨rfl, y, rfl⟩
    go_wp2
    go_ret
    exact ⟨rfl, y, rfl⟩
  have t0 := txts_beq HZ rfl
  have hl := txts_ok t0
  have hfe := Lcs.few_eq a b
  have hlo := labs_ok t0
  have hgc := given_cc t0 bs
  have f0 := fewE_ok t0
  have HGL := Lib.hid (given_lb (a := a) (b := b) (ls := ls))
  obtain ⟨L, hL⟩ : ∃ L, len a b = L := ⟨_, rfl⟩
  obtain ⟨K, hK⟩ : ∃ L, few a b = L := ⟨_, rfl⟩
  obtain ⟨na, hna⟩ : ∃ L, a.length = L := ⟨_, rfl⟩
  obtain ⟨nb, hnb⟩ : ∃ L, b.length = L := ⟨_, rfl⟩
  obtain ⟨G, hG⟩ : ∃ G, givenL a b bs = G := ⟨_, rfl⟩
  obtain ⟨N, hN⟩ : ∃ N, G.length = N := ⟨_, rfl⟩
  rw [hL, hK, hna, hnb] at hfe
  rw [hna, hnb] at hl
  rw [hL] at hlo
  rw [hG, hN, hL] at hgc
  rw [hK] at f0
  have HT := Lib.hid t0
  have HF := Lib.hid f0
  have HLB := Lib.hid hlo
  have HCC := Lib.hid hgc
  have HG := Lib.hid hG
  have HN := Lib.hid hN
  have HL := Lib.hid hL
  have HLL := Lib.hid (show labelsL a b = labsL a b by rw [labelsL, if_pos t0])
  have hsa : (⟨a.toArray⟩ : ByteArray).size = na := by rw [str_size]; exact hna
  have hsb : (⟨b.toArray⟩ : ByteArray).size = nb := by rw [str_size]; exact hnb
  have HA := Lib.hid hna
  have HB := Lib.hid hnb
  have hGN := hgc.2.2
  have h1 := hl.1
  have h2 := hl.2
  have heq : ((K : Int) == (na : Int) + (nb : Int) - 2 * (L : Int)) = true := by simp; omega
  have hne : ((K : Int) != (na : Int) + (nb : Int) - 2 * (L : Int)) = false := by simp; omega
  have d3 : decide (L < N) = false := decide_eq_false (by omega)
  have hK24 : K ≤ 24 := by omega
  have hL12 : L ≤ 12 := by omega
  clear t0 hl hlo hgc f0 hL hK hna hnb hG hN hfe
  go_wp2_with fail
  refine (Common_calls a b _).mono ?_
  rintro e w' ⟨cv, qs, y, rfl, rfl, hpo, hok, hno⟩
  rw [HT.out] at hok hno ⊢
  have hok := hok rfl
  clear hno
  obtain ⟨ap, np, cp, rfl⟩ : ∃ a n c, cv = Value.slice a n c := by obtain ⟨a, c, e⟩ := hpo.form; exact ⟨a, _, c, e⟩
  have HCP := Lib.hid (show ccN a b (qs.map natP) = L ∧ ccE a b (qs.map natP) = 0 by have h := cp_cc HT.out hok.1; exact ⟨by rw [h.2, hok.2, HL.out], h.1⟩)
  clear hok
  replace hb := hb.later y
  replace hx := hx.later y
  replace S := S.later y
  obtain ⟨Y1, hZ⟩ : ∃ Z : Later W, Z.w = y.w := ⟨y, rfl⟩
  rw [← hZ] at S hb hx hpo ⊢
  clear hZ
  clear y
  go_wp2_with fail
  refine (Labels_calls a b _).mono ?_
  rintro e w' ⟨v, y, rfl, rfl, hR⟩
  rw [HT.out]
  rw [HLL.out] at hR
  replace hb := hb.later y
  replace hx := hx.later y
  replace hpo := hpo.later y
  replace S := S.later y
  obtain ⟨a2, n2, c2, rfl⟩ : ∃ a n c, v = .slice a n c := by obtain ⟨a, c, e⟩ := hR.form; exact ⟨a, _, c, e⟩
  replace S := S.cons hR
  obtain ⟨Y3, hZ⟩ : ∃ Z : Later W, Z.w = y.w := ⟨Y1.step (y), rfl⟩
  rw [← hZ] at S hb hx hpo ⊢
  clear hZ
  clear y hR
  go_wp2_with fail
  refine (Fewest_calls a b _).mono ?_
  rintro e w' ⟨rfl, y, rfl⟩
  rw [HF.out, HT.out]
  replace hb := hb.later y
  replace hx := hx.later y
  replace hpo := hpo.later y
  replace S := S.later y
  obtain ⟨Y4, hZ⟩ : ∃ Z : Later W, Z.w = y.w := ⟨Y3.step (y), rfl⟩
  rw [← hZ] at S hb hx hpo ⊢
  clear hZ
  clear y
  go_wp2_with fail
  refine (CheckCommon_calls a b _ (qs.map natP) _ hpo).mono ?_
  rintro e w' ⟨rfl, y, rfl⟩
  rw [HCP.out.1, HCP.out.2]
  replace hb := hb.later y
  replace hx := hx.later y
  replace hpo := hpo.later y
  replace S := S.later y
  obtain ⟨Y5, hZ⟩ : ∃ Z : Later W, Z.w = y.w := ⟨Y4.step (y), rfl⟩
  rw [← hZ] at S hb hx hpo ⊢
  clear hZ
  clear y
  go_wp2_with fail
  refine (CheckLabels_calls a b _ (labsL a b) _ (S.at (v := .slice a2 n2 c2) (xs := (labsL a b)) (by simp))).mono ?_
  rintro e w' ⟨rfl, y, rfl⟩
  rw [HLB.out.1, HLB.out.2]
  replace hb := hb.later y
  replace hx := hx.later y
  replace hpo := hpo.later y
  replace S := S.later y
  obtain ⟨Y6, hZ⟩ : ∃ Z : Later W, Z.w = y.w := ⟨Y5.step (y), rfl⟩
  rw [← hZ] at S hb hx hpo ⊢
  clear hZ
  clear y
  go_wp2_with fail
  refine (rCheckCommon_calls a b _ (qs.map natP) _ hpo).mono ?_
  rintro e w' ⟨rfl, y, rfl⟩
  rw [HCP.out.1, HCP.out.2]
  replace hb := hb.later y
  replace hx := hx.later y
  replace hpo := hpo.later y
  replace S := S.later y
  obtain ⟨Y7, hZ⟩ : ∃ Z : Later W, Z.w = y.w := ⟨Y6.step (y), rfl⟩
  rw [← hZ] at S hb hx hpo ⊢
  clear hZ
  clear y
  go_wp2_with fail
  refine (rCheckLabels_calls a b _ (labsL a b) _ (S.at (v := .slice a2 n2 c2) (xs := (labsL a b)) (by simp))).mono ?_
  rintro e w' ⟨rfl, y, rfl⟩
  rw [HLB.out.1, HLB.out.2]
  replace hb := hb.later y
  replace hx := hx.later y
  replace hpo := hpo.later y
  replace S := S.later y
  obtain ⟨Y8, hZ⟩ : ∃ Z : Later W, Z.w = y.w := ⟨Y7.step (y), rfl⟩
  rw [← hZ] at S hb hx hpo ⊢
  clear hZ
  clear y
  go_wp2_with fail
  refine (given_calls a b _ bs (by rw [HA.out]; omega) (by rw [HB.out]; omega) _ hb).mono ?_
  rintro e w' ⟨gv, y, rfl, rfl, hgo⟩
  rw [HG.out] at hgo
  obtain ⟨ag, ng, cg, rfl⟩ : ∃ a n c, gv = Value.slice a n c := by obtain ⟨a, c, e⟩ := hgo.form; exact ⟨a, _, c, e⟩
  obtain rfl : ng = N := by obtain ⟨a, c, e⟩ := hgo.form; cases e; exact HN.out
  replace hb := hb.later y
  replace hx := hx.later y
  replace hpo := hpo.later y
  replace S := S.later y
  obtain ⟨Y9, hZ⟩ : ∃ Z : Later W, Z.w = y.w := ⟨Y8.step (y), rfl⟩
  rw [← hZ] at S hb hx hpo hgo ⊢
  clear hZ
  clear y
  go_wp2_with fail
  refine (CheckCommon_calls a b _ G _ hgo).mono ?_
  rintro e w' ⟨rfl, y, rfl⟩
  rw [HCC.out.1, HCC.out.2.1]
  replace hb := hb.later y
  replace hx := hx.later y
  replace hpo := hpo.later y
  replace hgo := hgo.later y
  replace S := S.later y
  obtain ⟨Y10, hZ⟩ : ∃ Z : Later W, Z.w = y.w := ⟨Y9.step (y), rfl⟩
  rw [← hZ] at S hb hx hpo hgo ⊢
  clear hZ
  clear y
  obtain ⟨E, hE⟩ : ∃ E, lbE a b ls = E := ⟨_, rfl⟩
  obtain ⟨M, hM⟩ : ∃ E, lbN a b ls = E := ⟨_, rfl⟩
  rw [hE, hM, HL.out] at HGL
  have HE := Lib.hid (show lbN a b ls = M ∧ lbE a b ls = E from ⟨hM, hE⟩)
  clear hE hM
  by_cases h0 : E = 0
  rotate_left
  · have hne0 : (E != 0) = true := by simpa using h0
    clear h0
    go_wp2_with fail
    refine (CheckLabels_calls a b _ ls _ hx).mono ?_
    rintro e w' ⟨rfl, y, rfl⟩
    rw [HE.out.1, HE.out.2]
    replace hb := hb.later y
    replace hx := hx.later y
    replace hpo := hpo.later y
    replace hgo := hgo.later y
    replace S := S.later y
    obtain ⟨Y11, hZ⟩ : ∃ Z : Later W, Z.w = y.w := ⟨Y10.step (y), rfl⟩
    rw [← hZ] at S hb hx hpo hgo ⊢
    clear hZ
    clear y
    go_wp2_with fail
    refine (Works_calls _).mono ?_
    rintro e w' ⟨rfl, y, rfl⟩
    go_wp2
    go_ret
    exact ⟨rfl, Y11.step (y), rfl⟩
  have hgl := HGL.out h0
  have d4 : decide ((L : Int) ≤ M) = true := decide_eq_true hgl.1
  have d5 : decide (M ≤ 12) = true := decide_eq_true hgl.2
  clear HGL hgl
  subst h0
  go_wp2_with fail
  refine (CheckLabels_calls a b _ ls _ hx).mono ?_
  rintro e w' ⟨rfl, y, rfl⟩
  rw [HE.out.1, HE.out.2]
  replace hb := hb.later y
  replace hx := hx.later y
  replace hpo := hpo.later y
  replace hgo := hgo.later y
  replace S := S.later y
  obtain ⟨Y11, hZ⟩ : ∃ Z : Later W, Z.w = y.w := ⟨Y10.step (y), rfl⟩
  rw [← hZ] at S hb hx hpo hgo ⊢
  clear hZ
  clear y
  go_wp2_with fail
  refine (Works_calls _).mono ?_
  rintro e w' ⟨rfl, y, rfl⟩
  go_wp2
  go_ret
  exact ⟨rfl, Y11.step (y), rfl⟩
end Go.Proofs.Ytpkgfkeekcgkcaa
