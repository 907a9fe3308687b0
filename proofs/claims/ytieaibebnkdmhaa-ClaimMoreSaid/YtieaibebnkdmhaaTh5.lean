import Derived.Test.YtieaibebnkdmhaaTh4
/-  How many settled matchings there are at most; that they stand in order. Plain lists. -/
namespace Go.Proofs.Ytieaibebnkdmhaa

/-- lists of k numbers of T, none twice -/
def injs : Nat → List Int → List (List Int)
  | 0, _ => [[]]
  | k + 1, T => T.flatMap fun x => (injs k (T.erase x)).map (x :: ·)
def fact : Nat → Nat
  | 0 => 1
  | n + 1 => (n + 1) * fact n
theorem fact_pos : ∀ n, 1 ≤ fact n
  | 0 => Nat.le_refl _
  | n + 1 => by have := fact_pos n; rw [fact]; exact Nat.le_trans this (Nat.le_mul_of_pos_left _ (by omega))
theorem injs_len : ∀ (k : Nat) (T : List Int), (injs k T).length ≤ fact T.length
  | 0, T => by simpa [injs] using fact_pos T.length
  | k + 1, T => by
    cases hT : T.length with
    | zero =>
      have : T = [] := List.eq_nil_of_length_eq_zero hT
      subst this
      simp [injs]
    | succ n =>
      rw [injs, fact]
      refine Nat.le_trans (flatMap_len _ (fact n) T fun x hx => ?_) (by rw [hT]; exact Nat.le_refl _)
      rw [List.length_map]
      have := injs_len k (T.erase x)
      rwa [List.length_erase_of_mem hx, hT] at this
theorem mem_injs : ∀ (l T : List Int), l.Nodup → (∀ x ∈ l, x ∈ T) → l ∈ injs l.length T
  | [], T, _, _ => by simp [injs]
  | a :: l, T, hn, hs => by
    rw [List.nodup_cons] at hn
    rw [List.length_cons, injs, List.mem_flatMap]
    refine ⟨a, hs a (by simp), List.mem_map.2 ⟨l, mem_injs l (T.erase a) hn.2 fun x hx => ?_, rfl⟩⟩
    exact (List.mem_erase_of_ne (by rintro rfl; exact hn.1 hx)).2 (hs x (by simp [hx]))
/-- the stars that nations have -/
def had (m : List Int) : List Int := m.filter fun x => decide (0 ≤ x)
theorem had_inj : ∀ (m l : List Int), m.length = l.length → (∀ i, i < m.length → (0 ≤ nth m i ↔ 0 ≤ nth l i)) → (∀ i, i < m.length → -1 ≤ nth m i ∧ -1 ≤ nth l i) → had m = had l → m = l
  | [], [], _, _, _, _ => rfl
  | a :: m, b :: l, hl, h1, h2, h3 => by
    have e0 := h1 0 (by simp)
    have e1 := h2 0 (by simp)
    simp only [nth, List.getD_cons_zero] at e0 e1
    have ih := had_inj m l (by simpa using hl) (fun i hi => by have := h1 (i + 1) (by simpa using hi); simpa [nth] using this) (fun i hi => by have := h2 (i + 1) (by simpa using hi); simpa [nth] using this)
    simp only [had, List.filter_cons] at h3 ih
    by_cases h : 0 ≤ a
    · have hb := e0.1 h
      simp only [h, hb, decide_true, if_true, List.cons.injEq] at h3
      rw [h3.1, ih h3.2]
    · have hb : ¬ 0 ≤ b := fun hb => h (e0.2 hb)
      simp only [h, hb, decide_false, Bool.false_eq_true, if_false] at h3
      rw [ih h3]
      have : a = b := by omega
      rw [this]
theorem had_nodup {m : List Int} (hinj : ∀ i j, i < m.length → j < m.length → 0 ≤ nth m i → nth m i = nth m j → i = j) : (had m).Nodup := by
  rw [had, List.nodup_iff_pairwise_ne, List.pairwise_filter, List.pairwise_iff_getElem]
  intro i j hi hj hij h1 h2 e
  rw [← nth_eq hi, ← nth_eq hj] at e
  rw [← nth_eq hi, decide_eq_true_iff] at h1
  have := hinj i j hi hj h1 e
  omega
theorem lvl_nodup (ns ss : List (List Int)) : ∀ i, (lvl ns ss i).Nodup
  | 0 => by simp [lvl]
  | i + 1 => by
    rw [lvl, List.nodup_iff_pairwise_ne, List.pairwise_flatMap]
    refine ⟨fun l _ => ?_, ?_⟩
    · rw [exts, List.pairwise_map]
      refine List.Pairwise.imp_of_mem (R := fun a b : Nat => a ≠ b) (fun {a b} _ _ hab e => hab ?_) (List.Pairwise.filter _ (List.nodup_iff_pairwise_ne.1 List.nodup_range))
      have := List.append_cancel_left e
      simp at this
      omega
    · refine List.Pairwise.imp_of_mem (R := fun a b : List Int => a ≠ b) (fun {a b} ha hb hab x hx y hy e => hab ?_) (List.nodup_iff_pairwise_ne.1 (lvl_nodup ns ss i))
      obtain ⟨j, _, _, rfl⟩ := mem_exts.1 hx
      obtain ⟨k, _, _, rfl⟩ := mem_exts.1 hy
      exact (List.append_inj e (by rw [lvl_mem_len ha, lvl_mem_len hb])).1
theorem allOf_nodup (ns ss : List (List Int)) : (allOf ns ss).Nodup := List.Nodup.sublist List.filter_sublist (lvl_nodup ns ss _)
theorem sett_nonneg {ns ss : List (List Int)} {m l : List Int} (hm : Sett ns ss m) (hl : Sett ns ss l) {n : Nat} (hn : n < ns.length) : 0 ≤ nth m n ↔ 0 ≤ nth l n := by
  have key : ∀ {m l : List Int}, Sett ns ss m → Sett ns ss l → 0 ≤ nth m n → 0 ≤ nth l n := fun {m l} hm hl h => by
    obtain ⟨t, _, ht⟩ := hm.stab.rural hl.stab (n := n) (s := (nth m n).toNat) ⟨by rw [hm.1.len]; exact hn, by omega⟩
    omega
  exact ⟨key hm hl, key hl hm⟩
theorem allOf_720 {ns ss : List (List Int)} (hv : vbook ns ss = 0) : (allOf ns ss).length ≤ 720 := by
  have hb := vbook_valid hv
  have hs0 := claims_sett hv
  have hf : ((allOf ns ss).map had).Nodup := SM.nodup_map (allOf_nodup ns ss) fun x hx y hy e => by
    have h1 := mem_allOf.1 hx
    have h2 := mem_allOf.1 hy
    exact had_inj x y (by rw [h1.1.len, h2.1.len]) (fun i hi => sett_nonneg h1 h2 (by rw [← h1.1.len]; exact hi)) (fun i hi => ⟨h1.1.lo i (by rw [← h1.1.len]; exact hi), h2.1.lo i (by rw [← h1.1.len]; exact hi)⟩) e
  have hlen : ∀ m, Sett ns ss m → (had m).length = (had (claimsF (tabOf ns ss) ns)).length := fun m hm => by
    have key : ∀ (m l : List Int), m.length = l.length → (∀ i, i < m.length → (0 ≤ nth m i ↔ 0 ≤ nth l i)) → (had m).length = (had l).length := by
      intro m
      induction m with
      | nil => intro l h _; cases l with | nil => rfl | cons => simp at h
      | cons a m ih =>
        intro l h h1
        cases l with
        | nil => simp at h
        | cons b l =>
          have e0 := h1 0 (by simp)
          simp only [nth, List.getD_cons_zero] at e0
          have := ih l (by simpa using h) (fun i hi => by have := h1 (i + 1) (by simpa using hi); simpa [nth] using this)
          simp only [had, List.filter_cons] at this ⊢
          by_cases h : 0 ≤ a
          · have hb := e0.1 h
            simp [h, hb, this]
          · have hb : ¬ 0 ≤ b := fun hb => h (e0.2 hb)
            simp only [h, hb, decide_false, Bool.false_eq_true, if_false]
            exact this
    exact key _ _ (by rw [hm.1.len, hs0.1.len]) fun i hi => sett_nonneg hm hs0 (by rw [← hm.1.len]; exact hi)
  have hsub := SM.nodup_len (l2 := injs (had (claimsF (tabOf ns ss) ns)).length ((List.range ss.length).map fun (s : Nat) => (s : Int))) hf (by
    intro x hx
    obtain ⟨m, hm, rfl⟩ := List.mem_map.1 hx
    have hm := mem_allOf.1 hm
    rw [← hlen m hm]
    refine mem_injs _ _ (had_nodup fun i j hi hj => hm.1.inj i j (by rw [← hm.1.len]; exact hi) (by rw [← hm.1.len]; exact hj)) fun y hy => ?_
    rw [had, List.mem_filter, decide_eq_true_iff] at hy
    obtain ⟨k, hk, rfl⟩ := mem_nth hy.1
    have := hm.1.hi k (by rw [← hm.1.len]; exact hk)
    exact List.mem_map.2 ⟨(nth m k).toNat, List.mem_range.2 (by omega), by omega⟩)
  rw [List.length_map] at hsub
  refine Nat.le_trans hsub (Nat.le_trans (injs_len _ _) ?_)
  rw [List.length_map, List.length_range]
  have h6 := hb.2.2.2.1
  have : ∀ n, n ≤ 6 → fact n ≤ 720 := by decide
  exact this _ h6

/-- a list comes before another one that is as long -/
def befF : List Int → List Int → Bool
  | a :: l, b :: m => if a == b then befF l m else decide (a < b)
  | _, _ => false
theorem befF_append : ∀ (l : List Int) (a b : Int), a < b → befF (l ++ [a]) (l ++ [b]) = true
  | [], a, b, h => by
    have : (a == b) = false := by simp; omega
    simp [befF, this, h]
  | x :: l, a, b, h => by simp [befF, befF_append l a b h]
theorem befF_ext : ∀ (l m : List Int) (a b : Int), l.length = m.length → befF l m = true → befF (l ++ [a]) (m ++ [b]) = true
  | [], [], _, _, _, h => by simp [befF] at h
  | x :: l, y :: m, a, b, hl, h => by
    simp only [List.cons_append, befF] at h ⊢
    by_cases e : (x == y) = true
    · rw [if_pos e] at h ⊢; exact befF_ext l m a b (by simpa using hl) h
    · rw [if_neg e] at h ⊢; exact h
theorem lvl_sorted (ns ss : List (List Int)) : ∀ i, (lvl ns ss i).Pairwise fun a b => befF a b = true
  | 0 => by simp [lvl]
  | i + 1 => by
    rw [lvl, List.pairwise_flatMap]
    refine ⟨fun l _ => ?_, ?_⟩
    · rw [exts, List.pairwise_map]
      refine List.Pairwise.imp_of_mem (R := fun a b : Nat => a < b) (fun {a b} _ _ hab => befF_append l _ _ (by omega)) (List.Pairwise.filter _ List.pairwise_lt_range)
    · refine List.Pairwise.imp_of_mem (R := fun a b : List Int => befF a b = true) (fun {a b} ha hb hab x hx y hy => ?_) (lvl_sorted ns ss i)
      obtain ⟨j, _, _, rfl⟩ := mem_exts.1 hx
      obtain ⟨k, _, _, rfl⟩ := mem_exts.1 hy
      exact befF_ext a b _ _ (by rw [lvl_mem_len ha, lvl_mem_len hb]) hab
theorem allOf_sorted {ns ss : List (List Int)} {k : Nat} (h : k + 1 < (allOf ns ss).length) : befF (row (allOf ns ss) k) (row (allOf ns ss) (k + 1)) = true := by
  have := List.Pairwise.filter (fun m => (fstU ns ss m).isNone) (lvl_sorted ns ss ns.length)
  have := List.pairwise_iff_getElem.1 this k (k + 1) (by have := h; rw [allOf] at this; omega) h (by omega)
  rw [row_eq (by omega), row_eq h]
  exact this
end Go.Proofs.Ytieaibebnkdmhaa
