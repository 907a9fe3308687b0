import Derived.Test.YtieaibebnkdmhaaRefC
namespace Go.Proofs.Ytieaibebnkdmhaa
open Go.RowKit

/-- a nation has a star with which it cannot be a pair; one star is there twice -/
def ruleB (ns ss : List (List Int)) (m : List Int) (k : Nat) : Bool := decide (0 ≤ nth m k) && !pairB ns ss k (nth m k)
def haveB (m : List Int) (k : Nat) : Bool := decide (0 ≤ nth m k) && (plc m (nth m k) != k)
theorem vmatch_book_ne {ns ss : List (List Int)} {m : List Int} (h : vbook ns ss ≠ 0) : vmatch ns ss m = vbook ns ss := by rw [vmatch, if_pos h]
theorem vmatch_len_ne {ns ss : List (List Int)} {m : List Int} (h : vbook ns ss = 0) (h2 : m.length ≠ ns.length) : vmatch ns ss m = 15 := by rw [vmatch, if_neg (by simp [h]), if_pos h2]
theorem vmatch_range {ns ss : List (List Int)} {m : List Int} (h : vbook ns ss = 0) (h2 : m.length = ns.length) {k : Nat} (hk : k < m.length) (h3 : outB (-1) ((ss.length : Int) - 1) (nth m k) = true) : vmatch ns ss m = 3 := by
  rw [vmatch, if_neg (by simp [h]), if_neg (by simp [h2]), if_pos (anyI_true hk h3)]
theorem ruleF_iff (M : PM) (m : List Int) : ∀ d k, k + d = m.length → (ruleF M (m.drop k) k = true ↔ ∃ j, k ≤ j ∧ j < m.length ∧ 0 ≤ nth m j ∧ inM M j (nth m j) = false)
  | 0, k, h => by
    rw [ruleF_end _ _ _ (by omega)]; simp only [Bool.false_eq_true, false_iff]
    rintro ⟨j, h1, h2, _⟩; omega
  | d + 1, k, h => by
    rw [ruleF_at _ _ _ (by omega), Bool.or_eq_true, ruleF_iff M m d (k + 1) (by omega)]
    simp only [Bool.and_eq_true, decide_eq_true_eq, Bool.not_eq_true']
    constructor
    · rintro (⟨h1, h2⟩ | ⟨j, h1, h2⟩)
      · exact ⟨k, Nat.le_refl _, by omega, h1, h2⟩
      · exact ⟨j, by omega, h2⟩
    · rintro ⟨j, h1, h2, h3⟩
      by_cases e : j = k
      · subst e; exact .inl h3
      · exact .inr ⟨j, by omega, h2, h3⟩
theorem haveF_iff (m : List Int) : ∀ d k, k + d = m.length → (haveF m (m.drop k) k = true ↔ ∃ j, k ≤ j ∧ j < m.length ∧ 0 ≤ nth m j ∧ (m.take j).any (isN (nth m j)) = true)
  | 0, k, h => by
    rw [haveF_end _ _ _ (by omega)]; simp only [Bool.false_eq_true, false_iff]
    rintro ⟨j, h1, h2, _⟩; omega
  | d + 1, k, h => by
    rw [haveF_at _ _ _ (by omega), Bool.or_eq_true, haveF_iff m d (k + 1) (by omega)]
    simp only [Bool.and_eq_true, decide_eq_true_eq]
    constructor
    · rintro (⟨h1, h2⟩ | ⟨j, h1, h2⟩)
      · exact ⟨k, Nat.le_refl _, by omega, h1, h2⟩
      · exact ⟨j, by omega, h2⟩
    · rintro ⟨j, h1, h2, h3⟩
      by_cases e : j = k
      · subst e; exact .inl h3
      · exact .inr ⟨j, by omega, h2, h3⟩
theorem pairB_iff {ns ss : List (List Int)} {n s : Int} : pairB ns ss n s = true ↔ s ∈ row ns n.toNat ∧ n ∈ row ss s.toNat := by
  simp [pairB, plc_nonneg]
theorem inM_pairB {ns ss : List (List Int)} (h : vbook ns ss = 0) {n : Nat} {s : Int} (hn : n < ns.length) (h0 : 0 ≤ s) (h1 : s < ss.length) : inM (tabOf ns ss) n s = pairB ns ss n s := by
  have hv := vbook_valid h
  rw [Bool.eq_iff_iff, inM_iff hv.2.2.2.2.1 hv.2.2.2.2.2.1, pairB_iff]
  simp only [Int.toNat_natCast]
  constructor
  · rintro ⟨_, _, _, _, h5, h6⟩; exact ⟨h5, h6⟩
  · rintro ⟨h5, h6⟩; exact ⟨by omega, by omega, h0, h1, h5, h6⟩
theorem take_any {m : List Int} {j : Nat} (hj : j < m.length) : (m.take j).any (isN (nth m j)) = (plc m (nth m j) != j) := by
  obtain ⟨p, e, hp, h1, h2⟩ := plc_mem (nth_mem hj)
  rw [Bool.eq_iff_iff, List.any_eq_true, e]
  have hpj : p ≤ j := by
    by_cases hlt : p ≤ j
    · exact hlt
    · exact absurd rfl (h2 j (by omega))
  constructor
  · rintro ⟨x, hx, hi⟩
    rw [isN_iff] at hi
    subst hi
    obtain ⟨i, hi, e2⟩ := List.mem_iff_getElem.1 hx
    rw [List.length_take] at hi
    rw [List.getElem_take, ← nth_eq (by omega)] at e2
    have : p ≤ i := by
      by_cases hlt : p ≤ i
      · exact hlt
      · exact absurd e2 (h2 i (by omega))
    simp; omega
  · intro h
    have hne : p ≠ j := by have h := h; simp at h; omega
    refine ⟨nth m p, ?_, by rw [isN_iff]; exact h1.symm⟩
    rw [List.mem_iff_getElem]
    exact ⟨p, by rw [List.length_take]; omega, by rw [List.getElem_take, nth_eq hp]⟩
theorem vmatch_in {ns ss : List (List Int)} {m : List Int} (h : vbook ns ss = 0) (h2 : m.length = ns.length) (h3 : ∀ k, k < m.length → outB (-1) ((ss.length : Int) - 1) (nth m k) = false) :
    vmatch ns ss m = if (∃ j, j < m.length ∧ ruleB ns ss m j = true) then 16 else if (∃ j, j < m.length ∧ haveB m j = true) then 11 else 0 := by
  rw [vmatch, if_neg (by simp [h]), if_neg (by simp [h2]), if_neg (by rw [anyI_false h3]; simp)]
  have e1 : (ruleF (tabOf ns ss) m 0 = true) = (∃ j, j < m.length ∧ ruleB ns ss m j = true) := by
    have := ruleF_iff (tabOf ns ss) m m.length 0 (by omega)
    rw [List.drop_zero] at this
    rw [eq_iff_iff, this]
    refine ⟨fun ⟨j, _, hj, h0, h1⟩ => ⟨j, hj, ?_⟩, fun ⟨j, hj, h0⟩ => ⟨j, Nat.zero_le _, hj, ?_⟩⟩
    all_goals
      have hr := h3 j hj
      simp only [outB, Bool.or_eq_false_iff, decide_eq_false_iff_not] at hr
    · rw [inM_pairB h (by omega) h0 (by omega)] at h1
      simp [ruleB, h0, h1]
    · simp only [ruleB, Bool.and_eq_true, decide_eq_true_eq, Bool.not_eq_true'] at h0
      exact ⟨h0.1, by rw [inM_pairB h (by omega) h0.1 (by omega)]; exact h0.2⟩
  have e2 : (haveF m m 0 = true) = (∃ j, j < m.length ∧ haveB m j = true) := by
    have := haveF_iff m m.length 0 (by omega)
    rw [List.drop_zero] at this
    rw [eq_iff_iff, this]
    refine ⟨fun ⟨j, _, hj, h0, h1⟩ => ⟨j, hj, ?_⟩, fun ⟨j, hj, h0⟩ => ⟨j, Nat.zero_le _, hj, ?_⟩⟩
    · rw [take_any hj] at h1
      rw [haveB, h1, decide_eq_true h0]; rfl
    · rw [haveB, Bool.and_eq_true, decide_eq_true_eq] at h0
      exact ⟨h0.1, by rw [take_any hj]; exact h0.2⟩
  simp only [e1, e2]
end Go.Proofs.Ytieaibebnkdmhaa
