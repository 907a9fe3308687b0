import Derived.Test.YtieaibebnkdmhaaLaw3
/-  The best matchings against all others, in the words of the statements. Plain lists. -/
namespace Go.Proofs.Ytieaibebnkdmhaa

theorem not_rath_n {ns ss : List (List Int)} {m l : List Int} (hm : Sett ns ss m) {n : Nat} (hn : n < ns.length) (h : ∀ s, rel m n s → ∃ t, rel l n t ∧ (sd ns ss).rn n t ≤ (sd ns ss).rn n s) : rathB (row ns n) (nth m n) (nth l n) = false := by
  rw [← Bool.not_eq_true, rathB, Bool.and_eq_true, decide_eq_true_iff, rth_iff]
  rintro ⟨h0, h1, h2⟩
  obtain ⟨t, ⟨_, ht⟩, hle⟩ := h (nth m n).toNat ⟨by rw [hm.1.len]; exact hn, by omega⟩
  have hle : (plc (row ns n) (t : Int)).toNat ≤ (plc (row ns n) (((nth m n).toNat : Nat) : Int)).toNat := hle
  rw [show (((nth m n).toNat : Nat) : Int) = nth m n by omega] at hle
  rw [ht] at h2
  rcases h2 with h2 | ⟨h2, h3⟩
  · omega
  · have := plc_nonneg.2 h1
    have := plc_nonneg.2 h2
    omega
theorem rath_n_not {ns ss : List (List Int)} {m l : List Int} (hm : Sett ns ss m) (hl : Sett ns ss l) {n : Nat} (h : rathB (row ns n) (nth m n) (nth l n) = false) {s : Nat} (hr : rel m n s) : ∃ t, rel l n t ∧ (sd ns ss).rn n t ≤ (sd ns ss).rn n s := by
  have hacc := hm.stab.acc hr
  rw [← Bool.not_eq_true, rathB, Bool.and_eq_true, decide_eq_true_iff, rth_iff, hr.2] at h
  by_cases h0 : nth l n < 0
  · exact absurd ⟨by omega, hacc.2.2.1, .inl h0⟩ h
  · refine ⟨(nth l n).toNat, ⟨by rw [hl.1.len]; exact hacc.1, by omega⟩, ?_⟩
    show (plc (row ns n) (((nth l n).toNat : Nat) : Int)).toNat ≤ (plc (row ns n) (s : Int)).toNat
    rw [show (((nth l n).toNat : Nat) : Int) = nth l n by omega]
    have hin := hl.1.inN n hacc.1 (by omega)
    have : ¬ plc (row ns n) (s : Int) < plc (row ns n) (nth l n) := fun hlt => h ⟨by omega, hacc.2.2.1, .inr ⟨hin, hlt⟩⟩
    omega
theorem not_rath_s {ns ss : List (List Int)} {m l : List Int} (hl : Sett ns ss l) {s : Nat} (h : ∀ n, rel m n s → ∃ k, rel l k s ∧ (sd ns ss).rs s k ≤ (sd ns ss).rs s n) : rathB (row ss s) (plc m s) (plc l s) = false := by
  rw [← Bool.not_eq_true, rathB, Bool.and_eq_true, decide_eq_true_iff, rth_iff]
  rintro ⟨h0, h1, h2⟩
  obtain ⟨n, hn⟩ : ∃ n : Nat, plc m s = n := ⟨(plc m s).toNat, by omega⟩
  obtain ⟨k, hk, hle⟩ := h n (rel_plc hn)
  have hle : (plc (row ss s) (k : Int)).toNat ≤ (plc (row ss s) (n : Int)).toNat := hle
  rw [plc_rel (fun i j s a b => hl.stab.fs a b) hk, hn] at h2
  rw [hn] at h1
  rcases h2 with h2 | ⟨h2, h3⟩
  · omega
  · have := plc_nonneg.2 h1
    have := plc_nonneg.2 h2
    omega
section
variable {ns ss : List (List Int)} (hv : vbook ns ss = 0) {m : List Int} (hm : Sett ns ss m)
include hv hm
theorem best_n {n : Nat} (hn : n < ns.length) : rathB (row ns n) (nth m n) (nth (claimsF (tabOf ns ss) ns) n) = false :=
  not_rath_n hm hn fun _ h => (claims_opt hv).best hm.stab h
theorem last_worst {n s : Nat} (h : rel (lastF ns ss) n s) : ∃ t, rel m n t ∧ (sd ns ss).rn n t ≤ (sd ns ss).rn n s :=
  (claims_opt ((vbook_swap ns ss).1 hv)).star (stab_swap.1 hm.stab) ((last_rel hv n s).1 h)
theorem worst_n {n : Nat} (hn : n < ns.length) : rathB (row ns n) (nth (lastF ns ss) n) (nth m n) = false :=
  not_rath_n (last_sett hv) hn fun _ h => last_worst hv hm h
theorem worst_s (s : Nat) : rathB (row ss s) (plc (claimsF (tabOf ns ss) ns) s) (plc m s) = false :=
  not_rath_s hm fun _ h => (claims_opt hv).star hm.stab h
theorem best_s (s : Nat) : rathB (row ss s) (plc m s) (plc (lastF ns ss) s) = false :=
  not_rath_s (last_sett hv) fun _ h => last_best hv hm.stab h
end
end Go.Proofs.Ytieaibebnkdmhaa
