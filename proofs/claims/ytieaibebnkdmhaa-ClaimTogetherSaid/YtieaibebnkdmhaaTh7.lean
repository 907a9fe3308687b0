import Derived.Test.YtieaibebnkdmhaaTh6
/-  The better and the worse of two settled matchings; the middle one of three. Plain lists. -/
namespace Go.Proofs.Ytieaibebnkdmhaa

def putN (ns : List (List Int)) (m l : List Int) (worse : Bool) : List Int := putL ns m l worse m.length
theorem putN_len (ns : List (List Int)) (m l : List Int) (b : Bool) : (putN ns m l b).length = m.length := putL_len _ _ _ _ _
theorem nth_putN (ns : List (List Int)) (m l : List Int) (b : Bool) {i : Nat} (h : i < m.length) : nth (putN ns m l b) i = putF ns m l b i := by
  rw [nth_eq (by rw [putN_len]; exact h)]; simp [putN, putL]
section
variable {ns ss : List (List Int)} {m l : List Int} (hm : Sett ns ss m) (hl : Sett ns ss l)
include hm hl
/-- what one nation has in both, and in the better and the worse -/
theorem put_val {i : Nat} (hi : i < ns.length) (b : Bool) : (nth m i = -1 ∧ nth l i = -1 ∧ nth (putN ns m l b) i = -1) ∨
    ∃ s t : Nat, rel m i s ∧ rel l i t ∧ nth (putN ns m l b) i = if (sd ns ss).rn i t < (sd ns ss).rn i s then (if b then (s : Int) else t) else (if b then (t : Int) else s) := by
  have hi' : i < m.length := by rw [hm.1.len]; exact hi
  have h1 := hm.1.lo i hi
  have h2 := hl.1.lo i hi
  have hiff := sett_nonneg hm hl hi
  rw [nth_putN _ _ _ _ hi', putF]
  by_cases h0 : 0 ≤ nth m i
  · right
    have h0' := hiff.1 h0
    have rm : rel m i (nth m i).toNat := ⟨hi', by omega⟩
    have rl : rel l i (nth l i).toNat := ⟨by rw [hl.1.len]; exact hi, by omega⟩
    refine ⟨_, _, rm, rl, ?_⟩
    have a1 := hm.stab.acc rm
    have a2 := hl.stab.acc rl
    have e1 : (((nth m i).toNat : Nat) : Int) = nth m i := by omega
    have e2 : (((nth l i).toNat : Nat) : Int) = nth l i := by omega
    have c1 := a1.2.2.1
    have c2 := a2.2.2.1
    rw [e1] at c1
    rw [e2] at c2
    have g1 := plc_nonneg.2 c1
    have g2 := plc_nonneg.2 c2
    have hr1 : (sd ns ss).rn i (nth m i).toNat = (plc (row ns i) (nth m i)).toNat := by show (plc (row ns i) (((nth m i).toNat : Nat) : Int)).toNat = _; rw [e1]
    have hr2 : (sd ns ss).rn i (nth l i).toNat = (plc (row ns i) (nth l i)).toNat := by show (plc (row ns i) (((nth l i).toNat : Nat) : Int)).toNat = _; rw [e2]
    rw [hr1, hr2, e1, e2, decide_eq_true h0', Bool.true_and]
    by_cases hlt : plc (row ns i) (nth l i) < plc (row ns i) (nth m i)
    · have : rth (row ns i) (nth l i) (nth m i) = true := rth_iff.2 ⟨c2, .inr ⟨c1, hlt⟩⟩
      rw [this, if_pos (show (plc (row ns i) (nth l i)).toNat < (plc (row ns i) (nth m i)).toNat by omega)]
      cases b <;> simp
    · have : rth (row ns i) (nth l i) (nth m i) = false := by
        rw [← Bool.not_eq_true, rth_iff]; rintro ⟨_, h | ⟨_, h⟩⟩ <;> omega
      rw [this, if_neg (show ¬ (plc (row ns i) (nth l i)).toNat < (plc (row ns i) (nth m i)).toNat by omega)]
      cases b <;> simp
  · left
    have h0' : ¬ 0 ≤ nth l i := fun h => h0 (hiff.2 h)
    rw [decide_eq_false h0', Bool.false_and]
    simp
    omega
theorem put_J {i s : Nat} : rel (putN ns m l false) i s ↔ SM.J (sd ns ss) (rel m) (rel l) i s := by
  by_cases hi : i < ns.length
  rotate_left
  · constructor
    · rintro ⟨h, _⟩; rw [putN_len, hm.1.len] at h; exact absurd h hi
    · rintro (⟨h, _⟩ | ⟨h, _⟩)
      · exact absurd (hm.stab.acc h).1 hi
      · exact absurd (hl.stab.acc h).1 hi
  have hlen : i < (putN ns m l false).length := by rw [putN_len, hm.1.len]; exact hi
  rcases put_val hm hl hi false with ⟨h1, h2, h3⟩ | ⟨a, b, ha, hb, h3⟩
  · constructor
    · rintro ⟨_, h⟩; omega
    · rintro (⟨⟨_, h⟩, _⟩ | ⟨⟨_, h⟩, _⟩) <;> omega
  · simp only [Bool.false_eq_true, if_false] at h3
    by_cases hlt : (sd ns ss).rn i b < (sd ns ss).rn i a
    · rw [if_pos hlt] at h3
      constructor
      · rintro ⟨_, h⟩
        obtain rfl : b = s := by omega
        exact .inr ⟨hb, fun t ht => by have := hm.stab.fn ht ha; subst this; omega⟩
      · rintro (⟨h, h'⟩ | ⟨h, _⟩)
        · have := hm.stab.fn h ha
          subst this
          have := h' b hb
          omega
        · have := hl.stab.fn h hb
          subst this
          exact ⟨hlen, h3⟩
    · rw [if_neg hlt] at h3
      constructor
      · rintro ⟨_, h⟩
        obtain rfl : a = s := by omega
        exact .inl ⟨ha, fun t ht => by have := hl.stab.fn ht hb; subst this; omega⟩
      · rintro (⟨h, _⟩ | ⟨h, h'⟩)
        · have := hm.stab.fn h ha
          subst this
          exact ⟨hlen, h3⟩
        · have := hl.stab.fn h hb
          subst this
          have := h' a ha
          have := (sd ns ss).jn (hm.stab.acc ha) (hl.stab.acc hb) (by omega)
          subst this
          exact ⟨hlen, h3⟩
theorem put_W {i s : Nat} : rel (putN ns m l true) i s ↔ SM.W (sd ns ss) (rel m) (rel l) i s := by
  by_cases hi : i < ns.length
  rotate_left
  · constructor
    · rintro ⟨h, _⟩; rw [putN_len, hm.1.len] at h; exact absurd h hi
    · rintro (⟨h, _⟩ | ⟨h, _⟩)
      · exact absurd (hm.stab.acc h).1 hi
      · exact absurd (hl.stab.acc h).1 hi
  have hlen : i < (putN ns m l true).length := by rw [putN_len, hm.1.len]; exact hi
  rcases put_val hm hl hi true with ⟨h1, h2, h3⟩ | ⟨a, b, ha, hb, h3⟩
  · constructor
    · rintro ⟨_, h⟩; omega
    · rintro (⟨⟨_, h⟩, _⟩ | ⟨⟨_, h⟩, _⟩) <;> omega
  · simp only [if_true] at h3
    by_cases hlt : (sd ns ss).rn i b < (sd ns ss).rn i a
    · rw [if_pos hlt] at h3
      constructor
      · rintro ⟨_, h⟩
        obtain rfl : a = s := by omega
        exact .inl ⟨ha, fun t ht => by have := hl.stab.fn ht hb; subst this; omega⟩
      · rintro (⟨h, _⟩ | ⟨h, h'⟩)
        · have := hm.stab.fn h ha
          subst this
          exact ⟨hlen, h3⟩
        · have := hl.stab.fn h hb
          subst this
          have := h' a ha
          omega
    · rw [if_neg hlt] at h3
      constructor
      · rintro ⟨_, h⟩
        obtain rfl : b = s := by omega
        exact .inr ⟨hb, fun t ht => by have := hm.stab.fn ht ha; subst this; omega⟩
      · rintro (⟨h, h'⟩ | ⟨h, _⟩)
        · have := hm.stab.fn h ha
          subst this
          have := h' b hb
          have := (sd ns ss).jn (hl.stab.acc hb) (hm.stab.acc ha) (by omega)
          subst this
          exact ⟨hlen, h3⟩
        · have := hl.stab.fn h hb
          subst this
          exact ⟨hlen, h3⟩
theorem put_lo (b : Bool) {i : Nat} (hi : i < ns.length) : -1 ≤ nth (putN ns m l b) i := by
  rcases put_val hm hl hi b with ⟨_, _, h⟩ | ⟨s, t, _, _, h⟩
  · omega
  · rw [h]
    cases b <;> simp only [Bool.false_eq_true, if_false, if_true] <;> split <;> omega
theorem put_sett (b : Bool) : Sett ns ss (putN ns m l b) := by
  refine of_stab (by rw [putN_len, hm.1.len]) (fun i hi => put_lo hm hl b hi) ?_
  cases b
  · exact (SM.J_stab hm.stab hl.stab).congr fun i s => (put_J hm hl).symm
  · exact (SM.W_stab hm.stab hl.stab).congr fun i s => (put_W hm hl).symm
theorem put_comm (b : Bool) : putN ns m l b = putN ns l m b := by
  refine (put_sett hm hl b).opt_ext (put_sett hl hm b) fun i s => ?_
  cases b
  · rw [put_J hm hl, put_J hl hm, SM.J_comm]
  · rw [put_W hm hl, put_W hl hm, SM.W_comm]
theorem put_vsett : vsett ns ss m l = 0 ↔ vbook ns ss = 0 := by
  constructor
  · intro h; exact (vsett_mats h).1
  · intro h
    rw [vsett_eq, vmatch_zero.2 ⟨h, hm.1⟩, vmatch_zero.2 ⟨h, hl.1⟩, hm.2, hl.2]
    rfl
theorem rBW_eq (hv : vbook ns ss = 0) (b : Bool) : rBW ns ss m l b = putN ns m l b := by rw [rBW, if_pos ((put_vsett hm hl).2 hv), putN]
/-- the better one is no worse than each .. -/
theorem put_better {i : Nat} (hi : i < ns.length) : rathB (row ns i) (nth m i) (nth (putN ns m l false) i) = false ∧ rathB (row ns i) (nth l i) (nth (putN ns m l false) i) = false := by
  refine ⟨not_rath_n hm hi fun s h => ?_, not_rath_n hl hi fun s h => ?_⟩
  · obtain ⟨t, ht, hle⟩ := SM.J_left (M := sd ns ss) hm.stab (Q := rel l) h
    exact ⟨t, (put_J hm hl).2 ht, hle⟩
  · obtain ⟨t, ht, hle⟩ := SM.J_right (M := sd ns ss) (P := rel m) hl.stab h
    exact ⟨t, (put_J hm hl).2 ht, hle⟩
theorem put_worse {i : Nat} (hi : i < ns.length) : rathB (row ns i) (nth (putN ns m l true) i) (nth m i) = false ∧ rathB (row ns i) (nth (putN ns m l true) i) (nth l i) = false := by
  have hW := put_sett hm hl true
  refine ⟨not_rath_n hW hi fun s h => ?_, not_rath_n hW hi fun s h => ?_⟩
  · rcases (put_W hm hl).1 h with ⟨h1, _⟩ | ⟨h1, h2⟩
    · exact ⟨s, h1, Nat.le_refl _⟩
    · obtain ⟨t, ht⟩ := hl.stab.rural hm.stab h1
      exact ⟨t, ht, h2 t ht⟩
  · rcases (put_W hm hl).1 h with ⟨h1, h2⟩ | ⟨h1, _⟩
    · obtain ⟨t, ht⟩ := hm.stab.rural hl.stab h1
      exact ⟨t, ht, h2 t ht⟩
    · exact ⟨s, h1, Nat.le_refl _⟩
theorem put_star (s : Nat) : rathB (row ss s) (plc (putN ns m l false) s) (plc m s) = false ∧ rathB (row ss s) (plc (putN ns m l false) s) (plc l s) = false := by
  have hJ := put_sett hm hl false
  refine ⟨not_rath_s hm fun n h => ?_, not_rath_s hl fun n h => ?_⟩
  · obtain ⟨k, hk⟩ := hJ.stab.ruralS hm.stab h
    exact ⟨k, hk, (SM.J_star hm.stab hl.stab ((put_J hm hl).1 h)).1 k hk⟩
  · obtain ⟨k, hk⟩ := hJ.stab.ruralS hl.stab h
    exact ⟨k, hk, (SM.J_star hm.stab hl.stab ((put_J hm hl).1 h)).2 k hk⟩
omit hm hl in
theorem put_one (b : Bool) {i : Nat} (hi : i < m.length) : nth (putN ns m l b) i = nth m i ∨ nth (putN ns m l b) i = nth l i := by
  rw [nth_putN _ _ _ _ hi, putF]
  split
  · exact .inr rfl
  · exact .inl rfl
end
section
variable {ns ss : List (List Int)} {m : List Int}
theorem put_same (hm : Sett ns ss m) (b : Bool) : putN ns m m b = m := by
  refine (put_sett hm hm b).opt_ext hm fun i s => ?_
  cases b
  · rw [put_J hm hm]
    constructor
    · rintro (⟨h, _⟩ | ⟨h, _⟩) <;> exact h
    · intro h; exact .inl ⟨h, fun t ht => by have := hm.stab.fn ht h; subst this; exact Nat.le_refl _⟩
  · rw [put_W hm hm]
    constructor
    · rintro (⟨h, _⟩ | ⟨h, _⟩) <;> exact h
    · intro h; exact .inl ⟨h, fun t ht => by have := hm.stab.fn ht h; subst this; exact Nat.le_refl _⟩
theorem put_first (hv : vbook ns ss = 0) (hm : Sett ns ss m) : putN ns m (claimsF (tabOf ns ss) ns) false = claimsF (tabOf ns ss) ns := by
  have hf := claims_sett hv
  refine (put_sett hm hf false).opt_ext hf fun i s => ?_
  rw [put_J hm hf]
  constructor
  · rintro (⟨h, h'⟩ | ⟨h, _⟩)
    · obtain ⟨t, ht, hle⟩ := (claims_opt hv).best hm.stab h
      have := h' t ht
      have := (sd ns ss).jn (hm.stab.acc h) (hf.stab.acc ht) (by omega)
      subst this
      exact ht
    · exact h
  · intro h
    refine .inr ⟨h, fun t ht => ?_⟩
    obtain ⟨u, hu, hle⟩ := (claims_opt hv).best hm.stab ht
    have := hf.stab.fn hu h
    subst this
    exact hle
theorem put_last (hv : vbook ns ss = 0) (hm : Sett ns ss m) : putN ns (lastF ns ss) m true = lastF ns ss := by
  have hf := last_sett hv
  refine (put_sett hf hm true).opt_ext hf fun i s => ?_
  rw [put_W hf hm]
  constructor
  · rintro (⟨h, _⟩ | ⟨h, h'⟩)
    · exact h
    · obtain ⟨t, ht⟩ := hm.stab.rural hf.stab h
      obtain ⟨u, hu, hle⟩ := last_worst hv hm ht
      have := hm.stab.fn hu h
      subst this
      have := h' t ht
      have := (sd ns ss).jn (hm.stab.acc h) (hf.stab.acc ht) (by omega)
      subst this
      exact ht
  · intro h
    refine .inl ⟨h, fun t ht => ?_⟩
    obtain ⟨u, hu, hle⟩ := last_worst hv hm h
    have := hm.stab.fn hu ht
    subst this
    exact hle
end
end Go.Proofs.Ytieaibebnkdmhaa
