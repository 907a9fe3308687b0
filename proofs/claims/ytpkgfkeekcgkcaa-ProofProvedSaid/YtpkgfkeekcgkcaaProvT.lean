import Derived.Test.YtpkgfkeekcgkcaaLwB
import Derived.Test.YtpkgfkeekcgkcaaKM
import Derived.Test.YtpkgfkeekcgkcaaKF
/-  The stage's theorem: common parts and labels; with no program in sight. -/
namespace Go.Proofs.Ytpkgfkeekcgkcaa
open Go.RowKit
open Lcs (lc ch CP len)
section
variable {a b : List UInt8}
/-! ### a common part, by bits -/
theorem lastP_at {ps : List (Int × Int)} (h : ps ≠ []) : lastP ps = ps[ps.length - 1]'(by have := List.length_pos_iff.2 h; omega) := pr_eq _
theorem gv_cp (a b : List UInt8) (bs : List Int) : ∀ k, k ≤ (matchL a b).length → ∃ ps : List (Nat × Nat), CP a b ps ∧ gvL bs (matchL a b) k = ps.map natP
  | 0, _ => ⟨[], CP.nil a b, rfl⟩
  | k + 1, hk => by
    obtain ⟨ps, hc, he⟩ := gv_cp a b bs k (by omega)
    obtain ⟨x, y, hp, hx, hy, hxy⟩ := matchL_at (a := a) (b := b) (i := k) (by omega)
    rw [gvL, he, hp]
    by_cases ht : takeB bs (ps.map natP) ((x : Int), (y : Int)) k = true
    · rw [if_pos ht]
      refine ⟨ps ++ [(x, y)], hc.snoc ⟨hx, hy, hxy⟩ fun q hq => ?_, by rw [List.map_append]; rfl⟩
      rw [takeB, Bool.and_eq_true, Bool.or_eq_true] at ht
      have hne : ps ≠ [] := List.ne_nil_of_mem hq
      rcases ht.2 with h | h
      · rw [List.isEmpty_iff, List.map_eq_nil_iff] at h; exact absurd h hne
      · have hl := List.length_pos_iff.2 hne
        rw [lastP_at (by simpa using hne), befP, Bool.and_eq_true, decide_eq_true_iff, decide_eq_true_iff, List.getElem_map] at h
        simp only [List.length_map, natP] at h
        have hlast : ps[ps.length - 1]'(by omega) ∈ ps := List.getElem_mem _
        rcases hc.lt hq hlast with h1 | h1 | h1
        · omega
        · subst h1; omega
        · obtain ⟨i, hi, rfl⟩ := List.mem_iff_getElem.1 hq
          by_cases e : i = ps.length - 1
          · subst e; omega
          · have := List.pairwise_iff_getElem.1 hc.inc i (ps.length - 1) hi (by omega) (by omega)
            omega
    · rw [if_neg ht]; exact ⟨ps, hc, rfl⟩
theorem given_cc (h : txtsE a b = 0) (bs : List Int) : ccE a b (givenL a b bs) = 0 ∧ ccN a b (givenL a b bs) = ((givenL a b bs).length : Int) ∧ (givenL a b bs).length ≤ len a b := by
  obtain ⟨ps, hc, he⟩ := gv_cp a b bs _ (Nat.le_refl _)
  have hg : givenL a b bs = ps.map natP := he
  have h1 := cp_cc h hc
  rw [hg, List.length_map]
  exact ⟨h1.1, h1.2, hc.le⟩
/-! ### labels -/
theorem mxF_le {ls : List Int} {m : Int} (h0 : 0 ≤ m) (h : ∀ i, i < ls.length → nth ls i ≤ m) : ∀ k, k ≤ ls.length → mxF ls k ≤ m
  | 0, _ => h0
  | k + 1, hk => by
    have h1 := mxF_le h0 h k (by omega)
    have h2 := h k (by omega)
    rw [mxF]; omega
theorem mxF_ge (ls : List Int) : ∀ k, 0 ≤ mxF ls k ∧ ∀ i, i < k → nth ls i ≤ mxF ls k
  | 0 => ⟨Int.le_refl _, fun i hi => absurd hi (Nat.not_lt_zero _)⟩
  | k + 1 => by
    have ih := mxF_ge ls k
    rw [mxF]
    refine ⟨by omega, fun i hi => ?_⟩
    by_cases e : i = k
    · subst e; omega
    · have := ih.2 i (by omega); omega
theorem lab_nth {i : Nat} (hi : i < (matchL a b).length) : ∃ x y : Nat, pr (matchL a b) i = ((x : Int), (y : Int)) ∧ nth (labsL a b) i = ((lc a b x y + 1 : Nat) : Int) ∧ lc a b (x + 1) (y + 1) = lc a b x y + 1 ∧ x < a.length ∧ y < b.length := by
  obtain ⟨x, y, hp, hx, hy, hxy⟩ := matchL_at hi
  refine ⟨x, y, hp, ?_, lc_match hxy, hx, hy⟩
  rw [labs_eq, nth_eq (by rw [List.length_map]; exact hi), List.getElem_map, ← pr_eq hi, hp, lcP, Int.toNat_natCast, Int.toNat_natCast]
theorem labs_len : (labsL a b).length = (matchL a b).length := by rw [labs_eq, List.length_map]
/-- the definitions' labels are labels, and the greatest is the length of the longest common part -/
theorem labs_ok (h : txtsE a b = 0) : lbE a b (labsL a b) = 0 ∧ lbN a b (labsL a b) = (len a b : Nat) := by
  have h12 := txts_ok h
  have hll := Lcs.len_le a b
  have hup : ∀ i, i < (labsL a b).length → 1 ≤ nth (labsL a b) i ∧ nth (labsL a b) i ≤ (len a b : Nat) := fun i hi => by
    rw [labs_len] at hi
    obtain ⟨x, y, hp, hn, hm, hx, hy⟩ := lab_nth hi
    have := Lcs.lc_mono a b (show x + 1 ≤ a.length by omega) (show y + 1 ≤ b.length by omega)
    rw [hn]
    rw [hm] at this
    have h3 : lc a b a.length b.length = len a b := rfl
    omega
  have h2 : (labsL a b).any outL = false := by
    rw [List.any_eq_false]
    intro v hv
    obtain ⟨i, hi, rfl⟩ := List.mem_iff_getElem.1 hv
    have := hup i hi
    rw [nth_eq hi] at this
    simp [outL]
    omega
  have h3 : anyB (matchL a b) (labsL a b) = false := by
    rw [anyB, List.any_eq_false]
    intro i hi
    have hi := List.mem_range.1 hi
    rw [Bool.not_eq_true, List.any_eq_false]
    intro k hk
    have hk := List.mem_range.1 hk
    obtain ⟨x, y, hp, hn, hm, hx, hy⟩ := lab_nth hi
    obtain ⟨x', y', hp', hn', hm', hx', hy'⟩ := lab_nth (show k < (matchL a b).length by omega)
    rw [badP, befP, hp, hp', hn, hn']
    simp only [Bool.and_eq_true, decide_eq_true_eq]
    rintro ⟨⟨h5, h6⟩, h7⟩
    have := Lcs.lc_mono a b (show x' + 1 ≤ x by omega) (show y' + 1 ≤ y by omega)
    omega
  have h4 := lb_ok h labs_len h2 h3
  refine ⟨h4.1, h4.2.trans ?_⟩
  refine Int.le_antisymm (mxF_le (by omega) (fun i hi => (hup i hi).2) _ (Nat.le_refl _)) ?_
  rcases Nat.eq_zero_or_pos (len a b) with h9 | h9
  · rw [h9]; exact (mxF_ge _ _).1
  · obtain ⟨x, y, hx, hy, hc, he⟩ := lc_top a b a.length b.length h9
    have hm : ((x : Int), (y : Int)) ∈ matchL a b := matchL_mem.2 ⟨x, y, rfl, hx, hy, hc⟩
    obtain ⟨k, hk, hek⟩ := List.mem_iff_getElem.1 hm
    obtain ⟨x', y', hp, hn, _⟩ := lab_nth hk
    rw [pr_eq hk, hek] at hp
    simp only [Prod.mk.injEq] at hp
    obtain ⟨rfl, rfl⟩ : x = x' ∧ y = y' := by omega
    have := (mxF_ge (labsL a b) (labsL a b).length).2 k (by rw [labs_len]; exact hk)
    rw [hn] at this
    have h3 : lc a b a.length b.length = len a b := rfl
    omega
/-- along a common part labels increase -/
theorem lab_up {ls : List Int} (h2 : ls.length = (matchL a b).length) (h3 : ls.any outL = false) (h4 : anyB (matchL a b) ls = false) {ps : List (Nat × Nat)} (hc : CP a b ps) : ∀ j (hj : j < ps.length), ∃ i, i < (matchL a b).length ∧ pr (matchL a b) i = natP ps[j] ∧ (j : Int) + 1 ≤ nth ls i
  | 0, hj => by
    have h5 := hc.eq _ (List.getElem_mem hj)
    have hm : natP ps[0] ∈ matchL a b := matchL_mem.2 ⟨_, _, rfl, h5.1, h5.2.1, h5.2.2⟩
    obtain ⟨k, hk, hek⟩ := List.mem_iff_getElem.1 hm
    refine ⟨k, hk, by rw [pr_eq hk]; exact hek, ?_⟩
    rw [List.any_eq_false] at h3
    have := h3 _ (List.getElem_mem (show k < ls.length by omega))
    rw [nth_eq (by omega)]
    simp [outL] at this
    omega
  | j + 1, hj => by
    obtain ⟨i, hi, hpi, hni⟩ := lab_up h2 h3 h4 hc j (by omega)
    have h5 := hc.eq _ (List.getElem_mem hj)
    have hm : natP ps[j + 1] ∈ matchL a b := matchL_mem.2 ⟨_, _, rfl, h5.1, h5.2.1, h5.2.2⟩
    obtain ⟨k, hk, hek⟩ := List.mem_iff_getElem.1 hm
    have hpk : pr (matchL a b) k = natP ps[j + 1] := by rw [pr_eq hk]; exact hek
    have hlt := List.pairwise_iff_getElem.1 hc.inc j (j + 1) (by omega) hj (Nat.lt_succ_self j)
    have hik : i < k := by
      rcases Nat.lt_trichotomy i k with h9 | h9 | h9
      · exact h9
      · subst h9
        rw [hpi] at hpk
        simp only [natP, Prod.mk.injEq] at hpk
        omega
      · have h8 := matchL_lt hi h9
        rw [hpi, hpk, lexP] at h8
        simp only [natP] at h8
        omega
    refine ⟨k, hk, hpk, ?_⟩
    rw [anyB, List.any_eq_false] at h4
    have h6 := h4 k (List.mem_range.2 hk)
    rw [Bool.not_eq_true, List.any_eq_false] at h6
    have h7 := h6 i (List.mem_range.2 hik)
    have a1 : (natP ps[j]).1 < (natP ps[j + 1]).1 := by simp only [natP]; omega
    have a2 : (natP ps[j]).2 < (natP ps[j + 1]).2 := by simp only [natP]; omega
    have h8 : ¬ nth ls k ≤ nth ls i := fun h9 => h7 (by rw [badP, befP, hpi, hpk, decide_eq_true h9, decide_eq_true a1, decide_eq_true a2]; rfl)
    omega
/-- the greatest of given labels is no less than the length of the longest common part -/
theorem given_lb {ls : List Int} (h : lbE a b ls = 0) : ((len a b : Nat) : Int) ≤ lbN a b ls ∧ lbN a b ls ≤ 12 := by
  have h0 : txtsE a b = 0 := by
    by_cases h0 : txtsE a b = 0
    · exact h0
    · rw [lbE, if_pos h0] at h; exact absurd h h0
  have h2 : ls.length = (matchL a b).length := by
    by_cases h2 : ls.length = (matchL a b).length
    · exact h2
    · rw [(lb_len h0 h2).1] at h; cases h
  have h3 : ls.any outL = false := by
    cases h3 : ls.any outL
    · rfl
    · rw [(lb_out h0 h2 h3).1] at h; cases h
  have h4 : anyB (matchL a b) ls = false := by
    cases h4 : anyB (matchL a b) ls
    · rfl
    · rw [(lb_bad h0 h2 h3 h4).1] at h; cases h
  rw [(lb_ok h0 h2 h3 h4).2]
  obtain ⟨ps, hc, hl⟩ := Lcs.len_ex a b
  constructor
  · rcases Nat.eq_zero_or_pos (len a b) with h9 | h9
    · rw [h9]; exact (mxF_ge _ _).1
    · obtain ⟨i, hi, _, hn⟩ := lab_up h2 h3 h4 hc (ps.length - 1) (by omega)
      have := (mxF_ge ls ls.length).2 i (by omega)
      omega
  · refine mxF_le (by decide) (fun i hi => ?_) _ (Nat.le_refl _)
    rw [List.any_eq_false] at h3
    have := h3 _ (List.getElem_mem hi)
    rw [nth_eq hi]
    simp [outL] at this
    omega
end
end Go.Proofs.Ytpkgfkeekcgkcaa
