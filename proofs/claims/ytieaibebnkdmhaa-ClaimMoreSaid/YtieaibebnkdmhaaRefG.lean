import Derived.Test.YtieaibebnkdmhaaRefF
import Derived.Test.YtieaibebnkdmhaaOwnI
/-  Matchings of a valid book, and the pairs that unsettle them: the program's words and those of the definitions. -/
namespace Go.Proofs.Ytieaibebnkdmhaa

theorem find_congr {α : Type} {p q : α → Bool} : ∀ {l : List α}, (∀ a ∈ l, p a = q a) → l.find? p = l.find? q
  | [], _ => rfl
  | a :: l, h => by
    rw [List.find?_cons, List.find?_cons, h a (by simp), find_congr fun b hb => h b (by simp [hb])]

/-- a matching of a valid book -/
structure Mat (ns ss : List (List Int)) (m : List Int) : Prop where
  len : m.length = ns.length
  lo : ∀ n, n < ns.length → -1 ≤ nth m n
  hi : ∀ n, n < ns.length → nth m n < ss.length
  inN : ∀ n, n < ns.length → 0 ≤ nth m n → nth m n ∈ row ns n
  inS : ∀ n, n < ns.length → 0 ≤ nth m n → (n : Int) ∈ row ss (nth m n).toNat
  inj : ∀ i j, i < ns.length → j < ns.length → 0 ≤ nth m i → nth m i = nth m j → i = j

theorem vmatch_zero {ns ss : List (List Int)} {m : List Int} : vmatch ns ss m = 0 ↔ vbook ns ss = 0 ∧ Mat ns ss m := by
  constructor
  · intro h
    by_cases h0 : vbook ns ss = 0
    rotate_left
    · rw [vmatch_book_ne h0] at h; exact absurd h h0
    refine ⟨h0, ?_⟩
    by_cases h1 : m.length = ns.length
    rotate_left
    · rw [vmatch_len_ne h0 h1] at h; cases h
    by_cases h2 : ∀ k, k < m.length → outB (-1) ((ss.length : Int) - 1) (nth m k) = false
    rotate_left
    · obtain ⟨k, h2⟩ := Classical.not_forall.1 h2
      obtain ⟨hk, h2⟩ := Classical.not_imp.1 h2
      rw [vmatch_range h0 h1 hk (by simpa using h2)] at h; cases h
    rw [vmatch_in h0 h1 h2] at h
    split at h
    · cases h
    rename_i h3
    split at h
    · cases h
    rename_i h4
    have g3 : ∀ j, j < m.length → 0 ≤ nth m j → pairB ns ss j (nth m j) = true := fun j hj h0 => by
      apply Classical.byContradiction
      intro hp
      exact h3 ⟨j, hj, by simp [ruleB, h0, hp]⟩
    have g4 : ∀ j, j < m.length → 0 ≤ nth m j → plc m (nth m j) = j := fun j hj h0 => by
      apply Classical.byContradiction
      intro hp
      exact h4 ⟨j, hj, by simp [haveB, h0, hp]⟩
    rw [h1] at h2 g3 g4
    refine ⟨h1, fun n hn => ?_, fun n hn => ?_, fun n hn h0 => (pairB_iff.1 (g3 n hn h0)).1, fun n hn h0 => (pairB_iff.1 (g3 n hn h0)).2, fun i j hi hj h0 e => ?_⟩
    · have := h2 n hn; simp only [outB, Bool.or_eq_false_iff, decide_eq_false_iff_not] at this; omega
    · have := h2 n hn; simp only [outB, Bool.or_eq_false_iff, decide_eq_false_iff_not] at this; omega
    · have e1 := g4 i hi h0
      rw [e, g4 j hj (e ▸ h0)] at e1
      omega
  · rintro ⟨h0, h⟩
    rw [vmatch_in h0 h.len (fun k hk => by have h1 := h.lo k (by rw [← h.len]; exact hk); have h2 := h.hi k (by rw [← h.len]; exact hk); simp [outB]; omega), if_neg, if_neg]
    · rintro ⟨j, hj, hb⟩
      simp only [haveB, Bool.and_eq_true, decide_eq_true_eq] at hb
      obtain ⟨p, e, hp, h1, h2⟩ := plc_mem (nth_mem hj)
      have := h.inj p j (by rw [← h.len]; exact hp) (by rw [← h.len]; exact hj) (by rw [h1]; exact hb.1) h1
      subst this
      rw [e] at hb
      simp at hb
    · rintro ⟨j, hj, hb⟩
      rw [h.len] at hj
      simp only [ruleB, Bool.and_eq_true, decide_eq_true_eq, Bool.not_eq_true'] at hb
      have : pairB ns ss j (nth m j) = true := pairB_iff.2 ⟨h.inN j hj hb.1, h.inS j hj hb.1⟩
      rw [this] at hb
      cases hb.2

theorem pS_eq {ns ss : List (List Int)} (h : vbook ns ss = 0) {n : Nat} {s : Int} (hp : pairB ns ss n s = true) (hn : n < ns.length) (h0 : 0 ≤ s) (h1 : s < ss.length) :
    pS (tabOf ns ss) n s = plc (row ns n) s ∧ pN (tabOf ns ss) n s = plc (row ss s.toNat) n := by
  have hv := vbook_valid h
  have hq := pairB_iff.1 hp
  have := tab_get hv.2.2.2.2.1 hv.2.2.2.2.2.1 n s
  rw [if_pos ⟨by omega, by omega, h0, h1, by simpa using hq.1, hq.2⟩] at this
  simp [pS, pN, this]
theorem unsM_unsB {ns ss : List (List Int)} {m : List Int} (h : vbook ns ss = 0) (hm : Mat ns ss m) {n s : Nat} (hn : n < ns.length) (hs : s < ss.length) :
    (inM (tabOf ns ss) n s && unsM (tabOf ns ss) m n s) = unsB ns ss m n s := by
  rw [inM_pairB h hn (by omega) (by omega), unsB, Bool.and_assoc]
  cases hp : pairB ns ss n s
  · rfl
  simp only [Bool.true_and]
  have hq := pairB_iff.1 hp
  simp only [Int.toNat_natCast] at hq
  obtain ⟨e1, e2⟩ := pS_eq h hp hn (by omega) (by omega)
  simp only [Int.toNat_natCast] at e2
  rw [unsM]
  congr 1
  · rw [Int.toNat_natCast, rthM, rth]
    have := hm.lo n hn
    by_cases ho : nth m n < 0
    · rw [if_pos (.inr ho), if_pos ho]
      have := plc_nonneg.2 hq.1
      simp [this]
    · rw [if_neg (by omega), if_neg ho, e1]
      have hpo : pairB ns ss n (nth m n) = true := pairB_iff.2 ⟨hm.inN n hn (by omega), hm.inS n hn (by omega)⟩
      rw [(pS_eq h hpo hn (by omega) (hm.hi n hn)).1]
      have h1 := plc_nonneg.2 hq.1
      have h2 := plc_nonneg.2 (hm.inN n hn (by omega))
      simp [h1, h2]
  · rw [winM, rth, idx_plc, e2]
    by_cases hc : (s : Int) ∈ m
    · obtain ⟨p, e, hp2, h1, _⟩ := plc_mem hc
      rw [hm.len] at hp2
      rw [e, if_neg (by omega)]
      have hp3 := hm.inS p hp2 (by omega)
      rw [h1, Int.toNat_natCast] at hp3
      have hpo : pairB ns ss p s = true := pairB_iff.2 ⟨by have := hm.inN p hp2 (by omega); rwa [h1] at this, by simpa using hp3⟩
      have e3 := (pS_eq h hpo hp2 (by omega) (by omega)).2
      simp only [Int.toNat_natCast] at e3
      rw [e3]
      have h1 := plc_nonneg.2 hq.2
      have h2 := plc_nonneg.2 hp3
      have h3 : ¬ (p : Int) < 0 := by omega
      simp [h1, h2, h3]
    · rw [plc_neg hc, if_pos (by omega)]
      have := plc_nonneg.2 hq.2
      simp [this]
theorem prsTo_eq (M : PM) (N S : Nat) : prsTo M S N = (prs2 N S).filter (fun p => inM M p.1 p.2) := by
  simp only [prsTo, prs2, List.filter_flatMap]
  congr 1
  funext k
  simp only [rowPs, List.filter_map]
  rfl
theorem uns_eq {ns ss : List (List Int)} {m : List Int} (h : vbook ns ss = 0) (hm : Mat ns ss m) : unsFst (tabOf ns ss) ns.length ss.length m = fstU ns ss m := by
  rw [unsFst, prsTo_eq, List.find?_filter, fstU]
  refine find_congr fun p hp => ?_
  obtain ⟨h1, h2⟩ := mem_prs2.1 hp
  rw [← unsM_unsB h hm h1 h2]
  simp
theorem any_uns {ns ss : List (List Int)} {m : List Int} (h : vbook ns ss = 0) (hm : Mat ns ss m) : (prsTo (tabOf ns ss) ss.length ns.length).any (fun p => unsM (tabOf ns ss) m p.1 p.2) = (fstU ns ss m).isSome := by
  rw [Bool.eq_iff_iff, ← uns_eq h hm, unsFst, List.find?_isSome, List.any_eq_true]
theorem unsR_eq {ns ss : List (List Int)} {m : List Int} : unsR ns ss m = if vmatch ns ss m = 0 then (match fstU ns ss m with | some (n, s) => ((n : Int), (s : Int), (0 : Int)) | none => (0, 0, 5)) else (0, 0, vmatch ns ss m) := by
  by_cases h : vmatch ns ss m = 0
  · obtain ⟨h0, hm⟩ := vmatch_zero.1 h
    rw [unsR, if_pos h, if_pos h, uns_eq h0 hm]
    rfl
  · rw [unsR, if_neg h, if_neg h]
theorem vsett_eq {ns ss : List (List Int)} {m l : List Int} : vsett ns ss m l =
    if vmatch ns ss m ≠ 0 then vmatch ns ss m else if vmatch ns ss l ≠ 0 then vmatch ns ss l else if (fstU ns ss m).isSome || (fstU ns ss l).isSome then 24 else 0 := by
  rw [vsett]
  split
  · rfl
  rename_i h1
  split
  · rfl
  rename_i h2
  obtain ⟨h0, hm⟩ := vmatch_zero.1 (by simpa using h1)
  obtain ⟨_, hl⟩ := vmatch_zero.1 (by simpa using h2)
  rw [← any_uns h0 hm, ← any_uns h0 hl]
  congr 1
  rw [eq_iff_iff]
  simp only [List.any_eq_true, Bool.or_eq_true]
  constructor
  · rintro ⟨x, hx, h | h⟩
    · exact .inl ⟨x, hx, h⟩
    · exact .inr ⟨x, hx, h⟩
  · rintro (⟨x, hx, h⟩ | ⟨x, hx, h⟩)
    · exact ⟨x, hx, .inl h⟩
    · exact ⟨x, hx, .inr h⟩
end Go.Proofs.Ytieaibebnkdmhaa
