import Derived.Test.YtieaibebnkdmhaaTh2
import Derived.Test.YtieaibebnkdmhaaClaims
/-  What the nations' claims come to: the best settled matching. Plain lists, no program in sight. -/
namespace Go.Proofs.Ytieaibebnkdmhaa

/-- What is asked of pairs that no star is to give up. -/
structure Fair (ns ss : List (List Int)) (μ : Nat → Nat → Prop) : Prop where
  acc : ∀ {n s}, μ n s → (sd ns ss).acc n s
  fs : ∀ {n k s}, μ n s → μ k s → n = k
  keep : ∀ {n k s}, (sd ns ss).acc k s → μ n s → (sd ns ss).rs s k < (sd ns ss).rs s n → ∃ t, μ k t ∧ (sd ns ss).rn k t ≤ (sd ns ss).rn k s
theorem Fair.of_stab {ns ss : List (List Int)} {P : Nat → Nat → Prop} (h : SM.Stab (sd ns ss) P) : Fair ns ss P where
  acc := fun hp => h.acc hp
  fs := fun a b => h.fs a b
  keep := by
    intro n k s ha hp hlt
    rcases h.dom ha with h1 | ⟨m, hm, hle⟩
    · exact h1
    · have := h.fs hm hp
      subst this
      omega

/-- What holds at any time of the claims. -/
structure GSI (ns ss : List (List Int)) (nx : List Nat) (has : List Int) : Prop where
  base : ClInv ns nx has
  hold : ∀ s n : Nat, s < 6 → nth has s = (n : Int) + 1 → (sd ns ss).acc n s ∧ 1 ≤ nnth nx n ∧ nth (row ns n) (nnth nx n - 1) = s
  rej : ∀ n j s : Nat, j < nnth nx n → nth (row ns n) j = (s : Int) → (sd ns ss).acc n s → nth has s ≠ (n : Int) + 1 → ∃ k : Nat, nth has s = (k : Int) + 1 ∧ (sd ns ss).rs s k < (sd ns ss).rs s n
  opt : ∀ μ, Fair ns ss μ → ∀ n j s : Nat, j < nnth nx n → nth (row ns n) j = (s : Int) → nth has s ≠ (n : Int) + 1 → ¬ μ n s

/-- how well a star fares with what it has -/
def val (ss : List (List Int)) (s : Nat) (x : Int) : Nat := if x = 0 then (row ss s).length else (plc (row ss s) (x - 1)).toNat
def Up (ss : List (List Int)) (a b : List Int) : Prop := ∀ s, s < 6 → nth b s = nth a s ∨ val ss s (nth b s) < val ss s (nth a s)
theorem Up.refl (ss : List (List Int)) (a : List Int) : Up ss a a := fun _ _ => .inl rfl
theorem Up.trans {ss : List (List Int)} {a b c : List Int} (h : Up ss a b) (h' : Up ss b c) : Up ss a c := fun s hs => by
  rcases h s hs with e | e <;> rcases h' s hs with e' | e'
  · exact .inl (e'.trans e)
  · rw [e] at e'; exact .inr e'
  · rw [e']; exact .inr e
  · exact .inr (by omega)
theorem Up.anti {ss : List (List Int)} {a b : List Int} (h : Up ss a b) (h' : Up ss b a) (ha : a.length = 6) (hb : b.length = 6) : a = b := by
  refine List.ext_getElem (by omega) fun i h1 h2 => ?_
  rw [← nth_eq h1, ← nth_eq h2]
  rcases h i (by omega) with e | e
  · exact e.symm
  · rcases h' i (by omega) with e' | e'
    · exact e'
    · omega

section
variable {ns ss : List (List Int)} (hv : vbook ns ss = 0)
include hv
theorem acc_inM {n s : Nat} : inM (tabOf ns ss) n s = true ↔ (sd ns ss).acc n s := by
  have hb := vbook_valid hv
  rw [inM_iff hb.2.2.2.2.1 hb.2.2.2.2.2.1]
  simp only [Int.toNat_natCast]
  constructor
  · rintro ⟨_, h1, _, h2, h3, h4⟩; exact ⟨by omega, by omega, h3, h4⟩
  · rintro ⟨h1, h2, h3, h4⟩; exact ⟨by omega, by omega, by omega, by omega, h3, h4⟩
theorem acc_pN {n s : Nat} (h : (sd ns ss).acc n s) : pN (tabOf ns ss) n s = plc (row ss s) n := by
  have := (pS_eq hv (n := n) (s := s) (pairB_iff.2 ⟨by simpa using h.2.2.1, by simpa using h.2.2.2⟩) h.1 (by omega) (by have := h.2.1; omega)).2
  simpa using this
theorem list_star {n k : Nat} (hn : n < ns.length) (hk : k < (row ns n).length) : ∃ s : Nat, nth (row ns n) k = s ∧ s < ss.length ∧ s < 6 := by
  have hb := vbook_valid hv
  have := hb.2.2.2.2.2.2.1 (row ns n) (row_mem hn) _ (nth_mem hk)
  exact ⟨(nth (row ns n) k).toNat, by omega, by omega, by omega⟩
theorem list_rn {n k s : Nat} (hn : n < ns.length) (hk : k < (row ns n).length) (e : nth (row ns n) k = s) : (sd ns ss).rn n s = k := by
  have hb := vbook_valid hv
  show (plc (row ns n) (s : Int)).toNat = k
  rw [← e, plc_nth (hb.2.2.2.2.1 _ (row_mem hn)) hk]
  simp
omit hv in
theorem star_at {n s : Nat} (h : (sd ns ss).acc n s) : (sd ns ss).rn n s < (row ns n).length ∧ nth (row ns n) ((sd ns ss).rn n s) = s := by
  obtain ⟨j, e, hj, h1, _⟩ := plc_mem h.2.2.1
  have : (sd ns ss).rn n s = j := by show (plc (row ns n) (s : Int)).toNat = j; rw [e]; simp
  rw [this]
  exact ⟨hj, h1⟩

/-- one nation's turn -/
theorem turn {n : Nat} (hn : n < ns.length) : ∀ (d k : Nat) (nx : List Nat) (has : List Int), k + d = (row ns n).length → nnth nx n = k → GSI ns ss nx has → (∀ s, s < 6 → nth has s ≠ (n : Int) + 1) →
    GSI ns ss (nx.set n (claimF (tabOf ns ss) n ((row ns n).drop k) k has).1) (claimF (tabOf ns ss) n ((row ns n).drop k) k has).2 ∧ Up ss has (claimF (tabOf ns ss) n ((row ns n).drop k) k has).2 ∧
    ((claimF (tabOf ns ss) n ((row ns n).drop k) k has).2 = has → (claimF (tabOf ns ss) n ((row ns n).drop k) k has).1 = (row ns n).length)
  | 0, k, nx, has, hk, hx, hI, hno => by
    rw [List.drop_eq_nil_of_le (by omega), claimF]
    refine ⟨?_, Up.refl _ _, fun _ => by omega⟩
    have : nx.set n k = nx := by
      rw [← hx]
      refine List.ext_getElem (by simp) fun i h1 h2 => ?_
      rw [List.getElem_set]
      split
      · rename_i e; subst e; simp [nnth, h2]
      · rfl
    show GSI ns ss (nx.set n k) has
    rw [this]
    exact hI
  | d + 1, k, nx, has, hk, hx, hI, hno => by
    have hk1 : k < (row ns n).length := by omega
    obtain ⟨s, hs, hsS, hs6⟩ := list_star hv hn hk1
    have hrn := list_rn hv hn hk1 hs
    have hnx : n < nx.length := by rw [hI.base.nxLen]; exact hn
    have hlen := hI.base.hasLen
    rw [List.drop_eq_getElem_cons hk1, claimF, ← nth_eq hk1, hs]
    have hset : ∀ j, nnth (nx.set n (k + 1)) j = if j = n then k + 1 else nnth nx j := nnth_set hnx
    by_cases hacc : (inM (tabOf ns ss) n s && winM (tabOf ns ss) s n (nth has (s : Int).toNat - 1)) = true
    · rw [if_pos hacc, Int.toNat_natCast] at *
      rw [Bool.and_eq_true] at hacc
      obtain ⟨h1, h2⟩ := hacc
      have ha := (acc_inM hv).1 h1
      have hcell : ∀ i, nth (has.set s ((n : Int) + 1)) i = if i = s then (n : Int) + 1 else nth has i := nth_set (by omega)
      have hbeat : ∀ o : Nat, nth has s = (o : Int) + 1 → (sd ns ss).acc o s ∧ (sd ns ss).rs s n < (sd ns ss).rs s o := fun o ho => by
        have hao := (hI.hold s o hs6 ho).1
        refine ⟨hao, ?_⟩
        rw [winM, ho, show (o : Int) + 1 - 1 = o by omega, acc_pN hv ha, acc_pN hv hao] at h2
        simp only [Bool.or_eq_true, decide_eq_true_iff] at h2
        have g1 := plc_nonneg.2 ha.2.2.2
        have g2 := plc_nonneg.2 hao.2.2.2
        show (plc (row ss s) (n : Int)).toNat < (plc (row ss s) (o : Int)).toNat
        omega
      refine ⟨⟨?_, ?_, ?_, ?_⟩, ?_, ?_⟩
      · have hb := vbook_valid hv
        refine ⟨by rw [List.length_set]; exact hI.base.nxLen, fun j hj => ?_, by rw [List.length_set]; exact hlen, fun i hi => ?_⟩
        · rw [hset]; split
          · rename_i e; subst e; omega
          · exact hI.base.nxLe j hj
        · rw [hcell]; split
          · omega
          · exact hI.base.rng i hi
      · intro t m ht hm
        rw [hcell] at hm
        rw [hset]
        by_cases e : t = s
        · rw [if_pos e] at hm
          obtain rfl : m = n := by omega
          subst e
          rw [if_pos rfl]
          exact ⟨ha, by omega, by simpa using hs⟩
        · rw [if_neg e] at hm
          have hne : m ≠ n := fun e => by subst e; exact hno t ht hm
          rw [if_neg hne]
          exact hI.hold t m ht hm
      · intro m j t hj ht hat hne
        rw [hset] at hj
        rw [hcell] at hne ⊢
        by_cases e : t = s
        · rw [if_pos e] at hne ⊢
          subst e
          have hmn : m ≠ n := fun e => hne (by rw [e])
          rw [if_neg hmn] at hj
          by_cases hold : nth has t = (m : Int) + 1
          · exact ⟨n, rfl, (hbeat m hold).2⟩
          · obtain ⟨o, ho, hlt⟩ := hI.rej m j t hj ht hat hold
            exact ⟨n, rfl, Nat.lt_trans (hbeat o ho).2 hlt⟩
        · rw [if_neg e] at hne ⊢
          by_cases hmn : m = n
          · subst hmn
            rw [if_pos rfl] at hj
            by_cases ej : j = k
            · subst ej; omega
            · exact hI.rej m j t (by omega) ht hat hne
          · rw [if_neg hmn] at hj
            exact hI.rej m j t hj ht hat hne
      · intro μ hμ m j t hj ht hne
        rw [hset] at hj
        rw [hcell] at hne
        by_cases e : t = s
        · rw [if_pos e] at hne
          subst e
          have hmn : m ≠ n := fun e => hne (by rw [e])
          rw [if_neg hmn] at hj
          by_cases hold : nth has t = (m : Int) + 1
          · intro hμm
            obtain ⟨u, hu, hle⟩ := hμ.keep ha hμm (hbeat m hold).2
            have hau := hμ.acc hu
            have hne2 : u ≠ t := fun e => by subst e; exact hmn (hμ.fs hμm hu)
            have hlt : (sd ns ss).rn n u < k := by
              have : (sd ns ss).rn n u ≠ (sd ns ss).rn n t := fun e => hne2 ((sd ns ss).jn hau ha e)
              omega
            exact hI.opt μ hμ n _ u (by omega) (star_at hau).2 (hno u (by have := hau.2.1; have := (vbook_valid hv).2.2.2.1; omega)) hu
          · exact hI.opt μ hμ m j t hj ht hold
        · rw [if_neg e] at hne
          by_cases hmn : m = n
          · subst hmn
            rw [if_pos rfl] at hj
            by_cases ej : j = k
            · subst ej; omega
            · exact hI.opt μ hμ m j t (by omega) ht hne
          · rw [if_neg hmn] at hj
            exact hI.opt μ hμ m j t hj ht hne
      · intro t ht
        rw [hcell]
        by_cases e : t = s
        · subst e
          rw [if_pos rfl]
          right
          have g1 := plc_nonneg.2 ha.2.2.2
          have g2 := plc_lt (n := (n : Int)) (xs := row ss t)
          rw [val, if_neg (by omega), show (n : Int) + 1 - 1 = n by omega, val]
          split
          · omega
          · rename_i h0
            have := hI.base.rng t ht
            obtain ⟨o, ho⟩ : ∃ o : Nat, nth has t = (o : Int) + 1 := ⟨(nth has t - 1).toNat, by omega⟩
            have := (hbeat o ho).2
            rw [ho, show (o : Int) + 1 - 1 = o by omega]
            exact this
        · rw [if_neg e]; exact .inl rfl
      · intro e
        have e : has.set s ((n : Int) + 1) = has := e
        have := hcell s
        rw [if_pos rfl, e] at this
        exact absurd this (hno s hs6)
    · rw [if_neg hacc]
      have hrej : (sd ns ss).acc n s → ∃ o : Nat, nth has s = (o : Int) + 1 ∧ (sd ns ss).acc o s ∧ (sd ns ss).rs s o < (sd ns ss).rs s n := fun ha => by
        rw [(acc_inM hv).2 ha, Bool.true_and, winM, Int.toNat_natCast] at hacc
        simp only [Bool.or_eq_true, decide_eq_true_iff, not_or] at hacc
        have hr := hI.base.rng s hs6
        obtain ⟨o, ho⟩ : ∃ o : Nat, nth has s = (o : Int) + 1 := ⟨(nth has s - 1).toNat, by omega⟩
        have hao := (hI.hold s o hs6 ho).1
        refine ⟨o, ho, hao, ?_⟩
        have h2 := hacc.2
        rw [ho, show (o : Int) + 1 - 1 = o by omega, acc_pN hv ha, acc_pN hv hao] at h2
        have g1 := plc_nonneg.2 ha.2.2.2
        have g2 := plc_nonneg.2 hao.2.2.2
        have hle : (sd ns ss).rs s o ≤ (sd ns ss).rs s n := by
          show (plc (row ss s) (o : Int)).toNat ≤ (plc (row ss s) (n : Int)).toNat
          omega
        have hne : (sd ns ss).rs s o ≠ (sd ns ss).rs s n := fun e => by
          have := (sd ns ss).js hao ha e
          subst this
          exact hno s hs6 ho
        omega
      have hI' : GSI ns ss (nx.set n (k + 1)) has := by
        refine ⟨⟨by rw [List.length_set]; exact hI.base.nxLen, fun j hj => ?_, hlen, hI.base.rng⟩, ?_, ?_, ?_⟩
        · rw [hset]; split
          · rename_i e; subst e; omega
          · exact hI.base.nxLe j hj
        · intro t m ht hm
          have hne : m ≠ n := fun e => by subst e; exact hno t ht hm
          rw [hset, if_neg hne]
          exact hI.hold t m ht hm
        · intro m j t hj ht hat hne
          rw [hset] at hj
          by_cases hmn : m = n
          · subst hmn
            rw [if_pos rfl] at hj
            by_cases ej : j = k
            · subst ej
              obtain rfl : t = s := by omega
              obtain ⟨o, ho, _, hlt⟩ := hrej hat
              exact ⟨o, ho, hlt⟩
            · exact hI.rej m j t (by omega) ht hat hne
          · rw [if_neg hmn] at hj
            exact hI.rej m j t hj ht hat hne
        · intro μ hμ m j t hj ht hne
          rw [hset] at hj
          by_cases hmn : m = n
          · subst hmn
            rw [if_pos rfl] at hj
            by_cases ej : j = k
            · subst ej
              obtain rfl : t = s := by omega
              intro hm
              obtain ⟨o, ho, hao, hlt⟩ := hrej (hμ.acc hm)
              obtain ⟨u, hu, hle⟩ := hμ.keep hao hm hlt
              have hau := hμ.acc hu
              obtain ⟨_, hx1, hx2⟩ := hI.hold t o hs6 ho
              have hon := hao.1
              have hro := list_rn hv hon (k := nnth nx o - 1) (by have := hI.base.nxLe o hon; omega) hx2
              have hne2 : u ≠ t := fun e => by
                subst e
                have := hμ.fs hm hu
                subst this
                exact hno u hs6 ho
              have hlt2 : (sd ns ss).rn o u ≠ (sd ns ss).rn o t := fun e => hne2 ((sd ns ss).jn hau hao e)
              refine hI.opt μ hμ o _ u (by omega) (star_at hau).2 (fun hou => ?_) hu
              obtain ⟨_, _, hx3⟩ := hI.hold u o (by have := hau.2.1; have := (vbook_valid hv).2.2.2.1; omega) hou
              omega
            · exact hI.opt μ hμ m j t (by omega) ht hne
          · rw [if_neg hmn] at hj
            exact hI.opt μ hμ m j t hj ht hne
      have ih := turn hn d (k + 1) (nx.set n (k + 1)) has (by omega) (by rw [hset, if_pos rfl]) hI' hno
      rw [List.set_set] at ih
      exact ih

/-- one round, from the k-th nation on -/
theorem round : ∀ (d k : Nat) (nx : List Nat) (has : List Int), k + d = ns.length → GSI ns ss nx has →
    GSI ns ss (passF (tabOf ns ss) (ns.drop k) k nx has).1 (passF (tabOf ns ss) (ns.drop k) k nx has).2 ∧ Up ss has (passF (tabOf ns ss) (ns.drop k) k nx has).2 ∧
    (∀ n, n < k → nnth (passF (tabOf ns ss) (ns.drop k) k nx has).1 n = nnth nx n) ∧ nx.sum ≤ (passF (tabOf ns ss) (ns.drop k) k nx has).1.sum ∧
    ((passF (tabOf ns ss) (ns.drop k) k nx has).2 ≠ has → nx.sum < (passF (tabOf ns ss) (ns.drop k) k nx has).1.sum) ∧
    ((passF (tabOf ns ss) (ns.drop k) k nx has).2 = has → ∀ n : Nat, k ≤ n → n < ns.length → (∀ s, s < 6 → nth has s ≠ (n : Int) + 1) → nnth (passF (tabOf ns ss) (ns.drop k) k nx has).1 n = (row ns n).length)
  | 0, k, nx, has, hk, hI => by
    rw [passF_end _ _ _ _ _ (by omega)]
    exact ⟨hI, Up.refl _ _, fun _ _ => rfl, Nat.le_refl _, fun h => absurd rfl h, fun _ n h1 h2 => by omega⟩
  | d + 1, k, nx, has, hk, hI => by
    have hkn : k < ns.length := by omega
    have hb := vbook_valid hv
    have hnx : k < nx.length := by rw [hI.base.nxLen]; exact hkn
    rw [passF_at _ _ _ _ _ hkn]
    by_cases hh : has.any (isN ((k : Int) + 1)) = true
    · rw [if_pos hh]
      obtain ⟨h1, h2, h3, h4, h5, h6⟩ := round d (k + 1) nx has (by omega) hI
      refine ⟨h1, h2, fun n hn => h3 n (by omega), h4, h5, fun e n h7 h8 h9 => ?_⟩
      by_cases hnk : n = k
      · subst hnk
        obtain ⟨x, hx, hi⟩ := List.any_eq_true.1 hh
        rw [isN_iff] at hi
        obtain ⟨i, hi2, e2⟩ := mem_nth hx
        exact absurd (e2.trans hi.symm) (h9 i (by rw [← hI.base.hasLen]; exact hi2))
      · exact h6 e n (by omega) h8 h9
    · rw [if_neg hh]
      have hno : ∀ s, s < 6 → nth has s ≠ (k : Int) + 1 := fun s hs e => hh (List.any_eq_true.2 ⟨nth has s, nth_mem (by rw [hI.base.hasLen]; exact hs), by rw [isN_iff]; exact e.symm⟩)
      obtain ⟨t1, t2, t3⟩ := turn hv hkn ((row ns k).length - nnth nx k) (nnth nx k) nx has (by have := hI.base.nxLe k hkn; omega) rfl hI hno
      have hst := hI.base.step (tabOf ns ss) k hkn hb.2.1 (fun s h => by have := (inM_iff hb.2.2.2.2.1 hb.2.2.2.2.2.1 k s).1 h; have := hb.2.2.2.1; omega)
      obtain ⟨q, hq⟩ : ∃ q, claimF (tabOf ns ss) k ((row ns k).drop (nnth nx k)) (nnth nx k) has = q := ⟨_, rfl⟩
      rw [hq] at t1 t2 t3 hst ⊢
      have hset : ∀ j, nnth (nx.set k q.1) j = if j = k then q.1 else nnth nx j := nnth_set hnx
      obtain ⟨h1, h2, h3, h4, h5, h6⟩ := round d (k + 1) (nx.set k q.1) q.2 (by omega) t1
      have hsame : (passF (tabOf ns ss) (ns.drop (k + 1)) (k + 1) (nx.set k q.1) q.2).2 = has → q.2 = has := fun e => by
        rw [e] at h2
        exact Up.anti h2 t2 t1.base.hasLen hI.base.hasLen
      refine ⟨h1, t2.trans h2, fun n hn => ?_, Nat.le_trans hst.2.1 h4, fun hne => ?_, fun e n h7 h8 h9 => ?_⟩
      · rw [h3 n (by omega), hset, if_neg (by omega)]
      · by_cases e : q.2 = has
        · rw [e] at h5 hne
          exact Nat.lt_of_le_of_lt hst.2.1 (by rw [e] at *; exact h5 hne)
        · exact Nat.lt_of_lt_of_le (hst.2.2 e) h4
      · have e2 := hsame e
        by_cases hnk : n = k
        · subst hnk
          rw [h3 n (by omega), hset, if_pos rfl]
          exact t3 e2
        · exact h6 (e.trans e2.symm) n (by omega) h8 (by rw [e2]; exact h9)

theorem rounds : ∀ (f : Nat) (nx : List Nat) (has : List Int), GSI ns ss nx has → total ns + 1 ≤ f + nx.sum →
    ∃ nx', GSI ns ss nx' (iterF (tabOf ns ss) ns f nx has) ∧ ∀ n : Nat, n < ns.length → (∀ s, s < 6 → nth (iterF (tabOf ns ss) ns f nx has) s ≠ (n : Int) + 1) → nnth nx' n = (row ns n).length
  | 0, nx, has, hI, hf => by have := hI.base.sum_le; omega
  | f + 1, nx, has, hI, hf => by
    obtain ⟨h1, h2, h3, h4, h5, h6⟩ := round hv ns.length 0 nx has (by omega) hI
    rw [List.drop_zero] at h1 h2 h3 h4 h5 h6
    rw [iterF]
    by_cases e : (passF (tabOf ns ss) ns 0 nx has).2 = has
    · rw [if_pos e]
      rw [e] at h1
      exact ⟨_, h1, fun n hn hno => h6 e n (Nat.zero_le _) hn hno⟩
    · rw [if_neg e]
      exact rounds f _ _ h1 (by have := h5 e; omega)

omit hv in
theorem GSI.start : GSI ns ss (List.replicate ns.length 0) (List.replicate 6 0) where
  base := ClInv.start ns
  hold := by intro s n _ h; rw [nth_replicate] at h; omega
  rej := by
    intro n j s hj
    have : nnth (List.replicate ns.length 0) n = 0 := by simp only [nnth, List.getD_eq_getElem?_getD, List.getElem?_replicate]; split <;> rfl
    omega
  opt := by
    intro μ _ n j s hj
    have : nnth (List.replicate ns.length 0) n = 0 := by simp only [nnth, List.getD_eq_getElem?_getD, List.getElem?_replicate]; split <;> rfl
    omega

/-- what the nations have in the end -/
def fin (ns ss : List (List Int)) (n s : Nat) : Prop := s < 6 ∧ nth (hasF (tabOf ns ss) ns) s = (n : Int) + 1
theorem fin_all : ∃ nx, GSI ns ss nx (hasF (tabOf ns ss) ns) ∧ ∀ n : Nat, n < ns.length → (∀ s, s < 6 → nth (hasF (tabOf ns ss) ns) s ≠ (n : Int) + 1) → nnth nx n = (row ns n).length :=
  rounds hv (total ns + 1) _ _ GSI.start (by omega)
theorem fin_stab : SM.Stab (sd ns ss) (fin ns ss) := by
  obtain ⟨nx, hI, hend⟩ := fin_all hv
  refine ⟨?_, ?_, ?_, ?_⟩
  · rintro n s ⟨hs, h⟩; exact (hI.hold s n hs h).1
  · rintro n s t ⟨hs, h⟩ ⟨ht, h'⟩
    have h1 := (hI.hold s n hs h).2.2
    have h2 := (hI.hold t n ht h').2.2
    omega
  · rintro n m s ⟨hs, h⟩ ⟨_, h'⟩
    omega
  · intro n s ha
    have hs6 : s < 6 := by have := ha.2.1; have := (vbook_valid hv).2.2.2.1; omega
    obtain ⟨hr1, hr2⟩ := star_at ha
    by_cases hh : ∃ t, t < 6 ∧ nth (hasF (tabOf ns ss) ns) t = (n : Int) + 1
    · obtain ⟨t, ht, h⟩ := hh
      obtain ⟨hat, h1, h2⟩ := hI.hold t n ht h
      have hrt := list_rn hv ha.1 (by have := hI.base.nxLe n ha.1; omega) h2
      by_cases hle : (sd ns ss).rn n t ≤ (sd ns ss).rn n s
      · exact .inl ⟨t, ⟨ht, h⟩, hle⟩
      · right
        obtain ⟨k, hk, hlt⟩ := hI.rej n _ s (by omega) hr2 ha (fun e => by
          have h3 := (hI.hold s n hs6 e).2.2
          have : s = t := by omega
          subst this
          omega)
        exact ⟨k, ⟨hs6, hk⟩, by omega⟩
    · right
      have hno : ∀ t, t < 6 → nth (hasF (tabOf ns ss) ns) t ≠ (n : Int) + 1 := fun t ht e => hh ⟨t, ht, e⟩
      obtain ⟨k, hk, hlt⟩ := hI.rej n _ s (by rw [hend n ha.1 hno]; exact hr1) hr2 ha (hno s hs6)
      exact ⟨k, ⟨hs6, hk⟩, by omega⟩
/-- no nation fares worse than in pairs that no star is to give up -/
theorem fin_fair {μ : Nat → Nat → Prop} (hμ : Fair ns ss μ) {n s : Nat} (h : μ n s) : ∃ t, fin ns ss n t ∧ (sd ns ss).rn n t ≤ (sd ns ss).rn n s := by
  obtain ⟨nx, hI, hend⟩ := fin_all hv
  have ha := hμ.acc h
  have hs6 : s < 6 := by have := ha.2.1; have := (vbook_valid hv).2.2.2.1; omega
  obtain ⟨hr1, hr2⟩ := star_at ha
  by_cases hh : ∃ t, t < 6 ∧ nth (hasF (tabOf ns ss) ns) t = (n : Int) + 1
  · obtain ⟨t, ht, h4⟩ := hh
    obtain ⟨hat, h1, h2⟩ := hI.hold t n ht h4
    have hrt := list_rn hv ha.1 (by have := hI.base.nxLe n ha.1; omega) h2
    refine ⟨t, ⟨ht, h4⟩, ?_⟩
    apply Classical.byContradiction
    intro hc
    refine hI.opt μ hμ n _ s (by omega) hr2 (fun e => ?_) h
    have h3 := (hI.hold s n hs6 e).2.2
    have : s = t := by omega
    subst this
    omega
  · have hno : ∀ t, t < 6 → nth (hasF (tabOf ns ss) ns) t ≠ (n : Int) + 1 := fun t ht e => hh ⟨t, ht, e⟩
    exact absurd h (hI.opt μ hμ n _ s (by rw [hend n ha.1 hno]; exact hr1) hr2 (hno s hs6))
theorem fin_opt : SM.Opt (sd ns ss) (fin ns ss) := ⟨fin_stab hv, fun hP _ _ h => fin_fair hv (Fair.of_stab hP) h⟩

theorem claims_rel (n s : Nat) : rel (claimsF (tabOf ns ss) ns) n s ↔ fin ns ss n s := by
  have hst := fin_stab hv
  obtain ⟨nx, hI, _⟩ := fin_all hv
  have hlen := hI.base.hasLen
  constructor
  · rintro ⟨hn, e⟩
    rw [claimsF_len] at hn
    rw [claimsF_nth _ _ hn, idx_plc] at e
    by_cases hm : ((n : Int) + 1) ∈ hasF (tabOf ns ss) ns
    · obtain ⟨j, e2, hj, h1, _⟩ := plc_mem hm
      have : j = s := by omega
      subst this
      exact ⟨by omega, h1⟩
    · rw [plc_neg hm] at e; omega
  · rintro ⟨hs, h⟩
    have hn : n < ns.length := (hst.acc ⟨hs, h⟩).1
    refine ⟨by rw [claimsF_len]; exact hn, ?_⟩
    rw [claimsF_nth _ _ hn, idx_plc]
    have hm : ((n : Int) + 1) ∈ hasF (tabOf ns ss) ns := by rw [← h]; exact nth_mem (by omega)
    obtain ⟨j, e2, hj, h1, _⟩ := plc_mem hm
    rw [e2, hst.fn (s := j) (t := s) ⟨by omega, h1⟩ ⟨hs, h⟩]
omit hv in
theorem claims_lo {n : Nat} (hn : n < ns.length) : -1 ≤ nth (claimsF (tabOf ns ss) ns) n := by
  rw [claimsF_nth _ _ hn, idx_plc]
  by_cases hm : ((n : Int) + 1) ∈ hasF (tabOf ns ss) ns
  · have := plc_nonneg.2 hm; omega
  · rw [plc_neg hm]; omega
theorem claims_stab : SM.Stab (sd ns ss) (rel (claimsF (tabOf ns ss) ns)) := (fin_stab hv).congr fun n s => (claims_rel hv n s).symm
theorem claims_opt : SM.Opt (sd ns ss) (rel (claimsF (tabOf ns ss) ns)) := ⟨claims_stab hv, fun hP n s h => by
  obtain ⟨t, ht, hle⟩ := (fin_opt hv).best hP h
  exact ⟨t, (claims_rel hv n t).2 ht, hle⟩⟩
theorem claims_sett : Sett ns ss (claimsF (tabOf ns ss) ns) := of_stab (claimsF_len _ _) (fun _ hn => claims_lo hn) (claims_stab hv)
end
end Go.Proofs.Ytieaibebnkdmhaa
