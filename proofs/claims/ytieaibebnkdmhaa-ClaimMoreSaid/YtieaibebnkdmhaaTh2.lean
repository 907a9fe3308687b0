import Derived.Test.YtieaibebnkdmhaaTh1
import Derived.Test.YtieaibebnkdmhaaRefJ
/-  The two sides of a book; its settled matchings, as lists and as relations. -/
namespace Go.Proofs.Ytieaibebnkdmhaa

def sd (ns ss : List (List Int)) : SM.Mk where
  N := ns.length
  S := ss.length
  acc n s := n < ns.length ∧ s < ss.length ∧ (s : Int) ∈ row ns n ∧ (n : Int) ∈ row ss s
  rn n s := (plc (row ns n) s).toNat
  rs s n := (plc (row ss s) n).toNat
  bn h := h.1
  bs h := h.2.1
  jn h h' e := by
    have h1 := plc_nonneg.2 h.2.2.1
    have h2 := plc_nonneg.2 h'.2.2.1
    have := plc_inj h.2.2.1 h'.2.2.1 (by omega)
    omega
  js h h' e := by
    have h1 := plc_nonneg.2 h.2.2.2
    have h2 := plc_nonneg.2 h'.2.2.2
    have := plc_inj h.2.2.2 h'.2.2.2 (by omega)
    omega
def rel (m : List Int) (n s : Nat) : Prop := n < m.length ∧ nth m n = (s : Int)
theorem stab_swap {ns ss : List (List Int)} {P : Nat → Nat → Prop} : SM.Stab (sd ns ss) P ↔ SM.Stab (sd ss ns) (fun s n => P n s) := by
  have key : ∀ {ns ss : List (List Int)} {P : Nat → Nat → Prop}, SM.Stab (sd ns ss) P → SM.Stab (sd ss ns) (fun s n => P n s) := fun h =>
    ⟨fun hp => by obtain ⟨a, b, c, d⟩ := h.acc hp; exact ⟨b, a, d, c⟩, fun h1 h2 => h.fs h1 h2, fun h1 h2 => h.fn h1 h2, fun ⟨a, b, c, d⟩ => (h.dom ⟨b, a, d, c⟩).symm⟩
  exact ⟨key, fun h => key h⟩

theorem rth_iff {l : List Int} {a b : Int} : rth l a b = true ↔ a ∈ l ∧ (b < 0 ∨ (b ∈ l ∧ plc l a < plc l b)) := by
  rw [rth]
  by_cases hb : b < 0
  · rw [if_pos hb, decide_eq_true_iff, plc_nonneg]; simp [hb]
  · rw [if_neg hb]
    simp only [Bool.and_eq_true, decide_eq_true_iff, plc_nonneg, hb, false_or, and_assoc]
theorem rel_plc {m : List Int} {n s : Nat} (h : plc m s = n) : rel m n s := by
  by_cases hm : (s : Int) ∈ m
  · obtain ⟨j, e, hj, h1, _⟩ := plc_mem hm
    have : j = n := by omega
    subst this
    exact ⟨hj, h1⟩
  · rw [plc_neg hm] at h; omega
theorem plc_rel {m : List Int} (hinj : ∀ i j s, rel m i s → rel m j s → i = j) {n s : Nat} (h : rel m n s) : plc m s = n := by
  have hm : (s : Int) ∈ m := by rw [← h.2]; exact nth_mem h.1
  obtain ⟨j, e, hj, h1, _⟩ := plc_mem hm
  rw [e, hinj j n s ⟨hj, h1⟩ h]

theorem stab_of {ns ss : List (List Int)} {m : List Int} (h : Mat ns ss m) (hu : fstU ns ss m = none) : SM.Stab (sd ns ss) (rel m) where
  acc := by
    rintro n s ⟨hn, e⟩
    rw [h.len] at hn
    have h1 := h.inN n hn (by omega)
    have h2 := h.inS n hn (by omega)
    have h3 := h.hi n hn
    rw [e] at h1 h2 h3
    rw [Int.toNat_natCast] at h2
    exact ⟨hn, by omega, h1, h2⟩
  fn := by
    rintro n s t ⟨_, e⟩ ⟨_, e'⟩
    omega
  fs := by
    rintro n k s ⟨hn, e⟩ ⟨hk, e'⟩
    rw [h.len] at hn hk
    exact h.inj n k hn hk (by omega) (by omega)
  dom := by
    rintro n s ⟨hn, hs, h1, h2⟩
    have hun := fstU_none.1 hu n hn s hs
    rw [unsB] at hun
    have hp : pairB ns ss n s = true := pairB_iff.2 ⟨by simpa using h1, by simpa using h2⟩
    rw [hp, Bool.true_and, Bool.and_eq_false_iff] at hun
    rcases hun with hun | hun
    · left
      have hlo := h.lo n hn
      by_cases h0 : nth m n < 0
      · have : rth (row ns n) s (nth m n) = true := rth_iff.2 ⟨h1, .inl h0⟩
        rw [this] at hun; cases hun
      · have hin := h.inN n hn (by omega)
        refine ⟨(nth m n).toNat, ⟨by rw [h.len]; exact hn, by omega⟩, ?_⟩
        have hge : ¬ plc (row ns n) s < plc (row ns n) (nth m n) := fun hlt => by
          have : rth (row ns n) s (nth m n) = true := rth_iff.2 ⟨h1, .inr ⟨hin, hlt⟩⟩
          rw [this] at hun; cases hun
        show (plc (row ns n) ((nth m n).toNat : Int)).toNat ≤ (plc (row ns n) s).toNat
        rw [show ((nth m n).toNat : Int) = nth m n by omega]
        omega
    · right
      by_cases hin : (s : Int) ∈ m
      · obtain ⟨k, e, hk, e1, _⟩ := plc_mem hin
        rw [e] at hun
        have hk' := hk
        rw [h.len] at hk'
        have h3 := h.inS k hk' (by omega)
        rw [e1, Int.toNat_natCast] at h3
        refine ⟨k, ⟨hk, e1⟩, ?_⟩
        have hge : ¬ plc (row ss s) n < plc (row ss s) k := fun hlt => by
          have : rth (row ss s) n k = true := rth_iff.2 ⟨h2, .inr ⟨h3, hlt⟩⟩
          rw [this] at hun; cases hun
        show (plc (row ss s) (k : Int)).toNat ≤ (plc (row ss s) (n : Int)).toNat
        omega
      · rw [plc_neg hin] at hun
        have : rth (row ss s) n (-1) = true := rth_iff.2 ⟨h2, .inl (by omega)⟩
        rw [this] at hun; cases hun
theorem of_stab {ns ss : List (List Int)} {m : List Int} (hl : m.length = ns.length) (hlo : ∀ n, n < ns.length → -1 ≤ nth m n) (h : SM.Stab (sd ns ss) (rel m)) : Mat ns ss m ∧ fstU ns ss m = none := by
  have hrel : ∀ n, n < ns.length → 0 ≤ nth m n → rel m n (nth m n).toNat := fun n hn h0 => ⟨by omega, by omega⟩
  have hM : Mat ns ss m := by
    refine ⟨hl, hlo, fun n hn => ?_, fun n hn h0 => ?_, fun n hn h0 => (h.acc (hrel n hn h0)).2.2.2, fun i j hi hj h0 e => ?_⟩
    · by_cases h0 : 0 ≤ nth m n
      · have : (nth m n).toNat < ss.length := (h.acc (hrel n hn h0)).2.1
        omega
      · omega
    · have := (h.acc (hrel n hn h0)).2.2.1
      rwa [show (((nth m n).toNat : Nat) : Int) = nth m n by omega] at this
    · have h2 := hrel j hj (e ▸ h0)
      rw [← e] at h2
      exact h.fs (hrel i hi h0) h2
  refine ⟨hM, fstU_none.2 fun n hn s hs => ?_⟩
  rw [← Bool.not_eq_true]
  intro hun
  rw [unsB, Bool.and_eq_true, Bool.and_eq_true, pairB_iff, rth_iff, rth_iff] at hun
  obtain ⟨⟨⟨h1, h2⟩, _, h3⟩, _, h4⟩ := hun
  rw [Int.toNat_natCast] at h1 h2
  rcases h.dom (n := n) (s := s) ⟨hn, hs, h1, h2⟩ with ⟨t, ⟨_, ht⟩, hle⟩ | ⟨k, hk, hle⟩
  · have hle : (plc (row ns n) (t : Int)).toNat ≤ (plc (row ns n) (s : Int)).toNat := hle
    have g1 := plc_nonneg.2 h1
    rw [ht] at h3
    rcases h3 with h3 | ⟨h3, h5⟩
    · omega
    · have g2 := plc_nonneg.2 h3; omega
  · have hle : (plc (row ss s) (k : Int)).toNat ≤ (plc (row ss s) (n : Int)).toNat := hle
    have g1 := plc_nonneg.2 h2
    rw [plc_rel (fun i j s a b => h.fs a b) hk] at h4
    rcases h4 with h4 | ⟨h4, h5⟩
    · omega
    · have g2 := plc_nonneg.2 h4; omega
/-- the settled matchings of a book -/
def Sett (ns ss : List (List Int)) (m : List Int) : Prop := Mat ns ss m ∧ fstU ns ss m = none
theorem Sett.stab {ns ss : List (List Int)} {m : List Int} (h : Sett ns ss m) : SM.Stab (sd ns ss) (rel m) := stab_of h.1 h.2
/-- lists are told by their relations -/
theorem rel_ext {m l : List Int} (hl : m.length = l.length) (h1 : ∀ n, n < m.length → -1 ≤ nth m n) (h2 : ∀ n, n < l.length → -1 ≤ nth l n) (h : ∀ n s, rel m n s ↔ rel l n s) : m = l := by
  refine List.ext_getElem hl fun n hn hn' => ?_
  rw [← nth_eq hn, ← nth_eq hn']
  have a := h1 n hn
  have b := h2 n hn'
  by_cases h0 : 0 ≤ nth m n
  · have := ((h n (nth m n).toNat).1 ⟨hn, by omega⟩).2
    omega
  · by_cases h0' : 0 ≤ nth l n
    · have := ((h n (nth l n).toNat).2 ⟨hn', by omega⟩).2
      omega
    · omega

theorem nth_append {l : List Int} {x : Int} (k : Nat) : nth (l ++ [x]) k = if k < l.length then nth l k else if k = l.length then x else 0 := by
  simp only [nth, List.getD_eq_getElem?_getD]
  by_cases h : k < l.length
  · rw [if_pos h, List.getElem?_append_left h]
  · rw [if_neg h, List.getElem?_append_right (by omega)]
    by_cases e : k = l.length
    · subst e; simp
    · rw [if_neg e, List.getElem?_eq_none (by simp; omega)]; rfl
/-- which lists are gone through -/
theorem mem_lvl {ns ss : List (List Int)} : ∀ {i : Nat} {m : List Int}, m ∈ lvl ns ss i ↔ m.length = i ∧ (∀ n, n < i → -1 ≤ nth m n ∧ nth m n < ss.length) ∧ (∀ n, n < i → 0 ≤ nth m n → pairB ns ss n (nth m n) = true) ∧ (∀ a b, a < i → b < i → 0 ≤ nth m a → nth m a = nth m b → a = b)
  | 0, m => by
    simp only [lvl, List.mem_singleton]
    constructor
    · rintro rfl; exact ⟨rfl, fun n h => by omega, fun n h => by omega, fun a b h => by omega⟩
    · rintro ⟨h, _⟩; exact List.eq_nil_of_length_eq_zero h
  | i + 1, m => by
    rw [lvl, List.mem_flatMap]
    constructor
    · rintro ⟨l, hl, hm⟩
      obtain ⟨h1, h2, h3, h4⟩ := mem_lvl.1 hl
      obtain ⟨j, hj, hx, rfl⟩ := mem_exts.1 hm
      have hN : ∀ n, n < i → nth (l ++ [(j : Int) - 1]) n = nth l n := fun n hn => by rw [nth_append, if_pos (by omega)]
      have hE : nth (l ++ [(j : Int) - 1]) i = (j : Int) - 1 := by rw [nth_append, if_neg (by omega), if_pos h1.symm]
      have hnew : 0 ≤ (j : Int) - 1 → pairB ns ss i ((j : Int) - 1) = true ∧ ((j : Int) - 1) ∉ l := fun h0 => by
        simp only [extB, Bool.or_eq_true, Bool.and_eq_true, decide_eq_true_iff] at hx
        rcases hx with hx | ⟨a, b⟩
        · omega
        · exact ⟨a, fun hin => by have := plc_nonneg.2 hin; omega⟩
      refine ⟨by simp [h1], fun n hn => ?_, fun n hn h0 => ?_, fun a b ha hb h0 e => ?_⟩
      · by_cases e : n = i
        · subst e; rw [hE]; omega
        · rw [hN n (by omega)]; exact h2 n (by omega)
      · by_cases e : n = i
        · subst e; rw [hE] at h0 ⊢; exact (hnew h0).1
        · rw [hN n (by omega)] at h0 ⊢; exact h3 n (by omega) h0
      · by_cases ea : a = i <;> by_cases eb : b = i
        · omega
        · subst ea
          rw [hE] at h0 e
          rw [hN b (by omega)] at e
          exact absurd (e ▸ nth_mem (by omega)) (hnew h0).2
        · subst eb
          rw [hE] at e
          rw [hN a (by omega)] at h0 e
          exact absurd (e ▸ nth_mem (by omega)) (hnew (e ▸ h0)).2
        · rw [hN a (by omega)] at h0 e
          rw [hN b (by omega)] at e
          exact h4 a b (by omega) (by omega) h0 e
    · rintro ⟨h1, h2, h3, h4⟩
      have hml : m = m.take i ++ [nth m i] := by
        rw [nth_eq (by omega), List.take_append_getElem (by omega), List.take_of_length_le (by omega)]
      have hT : ∀ n, n < i → nth (m.take i) n = nth m n := fun n hn => by simp [nth, hn]
      have hlen : (m.take i).length = i := by rw [List.length_take]; omega
      refine ⟨m.take i, mem_lvl.2 ⟨hlen, fun n hn => by rw [hT n hn]; exact h2 n (by omega), fun n hn => by rw [hT n hn]; exact h3 n (by omega), fun a b ha hb => by rw [hT a ha, hT b hb]; exact h4 a b (by omega) (by omega)⟩, ?_⟩
      have hi := h2 i (by omega)
      refine mem_exts.2 ⟨(nth m i + 1).toNat, by omega, ?_, ?_⟩
      · rw [show (((nth m i + 1).toNat : Nat) : Int) - 1 = nth m i by omega]
        simp only [extB, Bool.or_eq_true, Bool.and_eq_true, decide_eq_true_iff]
        by_cases h0 : nth m i < 0
        · exact .inl h0
        · refine .inr ⟨h3 i (by omega) (by omega), ?_⟩
          rw [plc_neg]
          · omega
          · intro hin
            obtain ⟨k, hk, e⟩ := mem_nth hin
            rw [hlen] at hk
            rw [hT k hk] at e
            have := h4 k i (by omega) (by omega) (by omega) e
            omega
      · rw [show (((nth m i + 1).toNat : Nat) : Int) - 1 = nth m i by omega]
        exact hml
theorem mem_allOf {ns ss : List (List Int)} {m : List Int} : m ∈ allOf ns ss ↔ Sett ns ss m := by
  rw [allOf, List.mem_filter, mem_lvl, Sett]
  constructor
  · rintro ⟨⟨h1, h2, h3, h4⟩, hu⟩
    exact ⟨⟨h1, fun n hn => (h2 n hn).1, fun n hn => (h2 n hn).2, fun n hn h0 => by simpa using (pairB_iff.1 (h3 n hn h0)).1, fun n hn h0 => (pairB_iff.1 (h3 n hn h0)).2, fun a b => h4 a b⟩, by simpa using hu⟩
  · rintro ⟨h, hu⟩
    exact ⟨⟨h.len, fun n hn => ⟨h.lo n hn, h.hi n hn⟩, fun n hn h0 => pairB_iff.2 ⟨by simpa using h.inN n hn h0, h.inS n hn h0⟩, fun a b => h.inj a b⟩, by rw [hu]; rfl⟩
end Go.Proofs.Ytieaibebnkdmhaa
