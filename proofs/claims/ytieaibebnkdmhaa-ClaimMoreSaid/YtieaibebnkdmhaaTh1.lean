/-  Settled matchings of two sides with lists, over numbers: plain Lean, no program in sight. -/
namespace Go.Proofs.Ytieaibebnkdmhaa
namespace SM

theorem nodup_len {α : Type} [DecidableEq α] : ∀ {l1 l2 : List α}, l1.Nodup → (∀ x ∈ l1, x ∈ l2) → l1.length ≤ l2.length
  | [], _, _, _ => by simp
  | a :: t, l2, hn, hs => by
    rw [List.nodup_cons] at hn
    have ha := hs a (by simp)
    have ih := nodup_len (l1 := t) (l2 := l2.erase a) hn.2 fun x hx => (List.mem_erase_of_ne (by rintro rfl; exact hn.1 hx)).2 (hs x (by simp [hx]))
    rw [List.length_erase_of_mem ha] at ih
    have : 0 < l2.length := List.length_pos_of_mem ha
    simp only [List.length_cons]
    omega
theorem nodup_map {α β : Type} {f : α → β} : ∀ {l : List α}, l.Nodup → (∀ x ∈ l, ∀ y ∈ l, f x = f y → x = y) → (l.map f).Nodup
  | [], _, _ => by simp
  | a :: t, hn, hi => by
    rw [List.nodup_cons] at hn
    rw [List.map_cons, List.nodup_cons]
    refine ⟨fun h => ?_, nodup_map hn.2 fun x hx y hy => hi x (by simp [hx]) y (by simp [hy])⟩
    obtain ⟨x, hx, e⟩ := List.mem_map.1 h
    have := hi x (by simp [hx]) a (by simp) e
    subst this
    exact hn.1 hx
/-- what maps a bounded set of numbers into itself, no two to one, reaches all -/
theorem inj_surj (N : Nat) (X : Nat → Prop) (f : Nat → Nat) (hb : ∀ n, X n → n < N) (hX : ∀ n, X n → X (f n)) (hi : ∀ n m, X n → X m → f n = f m → n = m) (m : Nat) (hm : X m) : ∃ n, X n ∧ f n = m := by
  apply Classical.byContradiction
  intro hno
  let p : Nat → Bool := fun n => @decide (X n) (Classical.propDecidable _)
  have hp : ∀ n, p n = true ↔ X n := fun n => by simp [p]
  have hL : ∀ n, n ∈ (List.range N).filter p ↔ X n := fun n => by
    rw [List.mem_filter, hp, List.mem_range]
    exact ⟨fun h => h.2, fun h => ⟨hb n h, h⟩⟩
  have hnd : ((List.range N).filter p).Nodup := List.Nodup.sublist List.filter_sublist List.nodup_range
  have hm2 : (((List.range N).filter p).map f).Nodup := nodup_map hnd fun x hx y hy e => hi x y ((hL x).1 hx) ((hL y).1 hy) e
  have h3 : (m :: ((List.range N).filter p).map f).Nodup := by
    rw [List.nodup_cons]
    refine ⟨fun h => ?_, hm2⟩
    obtain ⟨n, hn, e⟩ := List.mem_map.1 h
    exact hno ⟨n, (hL n).1 hn, e⟩
  have := nodup_len (l2 := (List.range N).filter p) h3 (by
    intro x hx
    rcases List.mem_cons.1 hx with rfl | hx
    · exact (hL _).2 hm
    · obtain ⟨n, hn, rfl⟩ := List.mem_map.1 hx
      exact (hL _).2 (hX n ((hL n).1 hn)))
  simp at this
  omega

/-- Two sides: which pairs can be, and where each stands on the other's list. -/
structure Mk where
  N : Nat
  S : Nat
  acc : Nat → Nat → Prop
  rn : Nat → Nat → Nat
  rs : Nat → Nat → Nat
  bn : ∀ {n s}, acc n s → n < N
  bs : ∀ {n s}, acc n s → s < S
  jn : ∀ {n s t}, acc n s → acc n t → rn n s = rn n t → s = t
  js : ∀ {n m s}, acc n s → acc m s → rs s n = rs s m → n = m
/-- with the sides exchanged -/
def Mk.dual (M : Mk) : Mk := ⟨M.S, M.N, fun s n => M.acc n s, M.rs, M.rn, fun h => M.bs h, fun h => M.bn h, fun h h' e => M.js h h' e, fun h h' e => M.jn h h' e⟩

/-- A settled matching. -/
structure Stab (M : Mk) (P : Nat → Nat → Prop) : Prop where
  acc : ∀ {n s}, P n s → M.acc n s
  fn : ∀ {n s t}, P n s → P n t → s = t
  fs : ∀ {n m s}, P n s → P m s → n = m
  dom : ∀ {n s}, M.acc n s → (∃ t, P n t ∧ M.rn n t ≤ M.rn n s) ∨ (∃ m, P m s ∧ M.rs s m ≤ M.rs s n)
theorem Stab.dual {M : Mk} {P : Nat → Nat → Prop} (h : Stab M P) : Stab M.dual (fun s n => P n s) :=
  ⟨fun hp => h.acc hp, fun h1 h2 => h.fs h1 h2, fun h1 h2 => h.fn h1 h2, fun ha => (h.dom ha).symm⟩
theorem Stab.ofDual {M : Mk} {P : Nat → Nat → Prop} (h : Stab M.dual (fun s n => P n s)) : Stab M P :=
  ⟨fun hp => h.acc hp, fun h1 h2 => h.fs h1 h2, fun h1 h2 => h.fn h1 h2, fun ha => (h.dom ha).symm⟩

variable {M : Mk} {P Q : Nat → Nat → Prop}
/-- n would rather have s than what it has in Q -/
def Rath (M : Mk) (Q : Nat → Nat → Prop) (n s : Nat) : Prop := ∀ t, Q n t → M.rn n s < M.rn n t
def RathS (M : Mk) (Q : Nat → Nat → Prop) (s n : Nat) : Prop := ∀ m, Q m s → M.rs s n < M.rs s m

theorem Stab.block (hQ : Stab M Q) {n s : Nat} (ha : M.acc n s) (h : Rath M Q n s) : ∃ m, Q m s ∧ M.rs s m < M.rs s n := by
  rcases hQ.dom ha with ⟨t, ht, hle⟩ | ⟨m, hm, hle⟩
  · have := h t ht; omega
  · refine ⟨m, hm, ?_⟩
    by_cases e : M.rs s m = M.rs s n
    · have := M.js (hQ.acc hm) ha e
      subst this
      have := h s hm
      omega
    · omega
theorem Stab.blockS (hQ : Stab M Q) {n s : Nat} (ha : M.acc n s) (h : RathS M Q s n) : ∃ t, Q n t ∧ M.rn n t < M.rn n s :=
  hQ.dual.block (M := M.dual) ha h
/-- .. then the nation that has s in Q would rather have what it has in P -/
theorem Stab.chain (hP : Stab M P) (hQ : Stab M Q) {n s : Nat} (hp : P n s) (h : Rath M Q n s) : ∃ m, Q m s ∧ M.rs s m < M.rs s n ∧ ∃ t, P m t ∧ M.rn m t < M.rn m s := by
  obtain ⟨m, hm, hlt⟩ := hQ.block (hP.acc hp) h
  obtain ⟨t, ht, hlt2⟩ := hP.blockS (hQ.acc hm) (fun k hk => by have := hP.fs hk hp; subst this; exact hlt)
  exact ⟨m, hm, hlt, t, ht, hlt2⟩
/-- those that would rather have what they have in P than in Q -/
def X (M : Mk) (P Q : Nat → Nat → Prop) (n : Nat) : Prop := ∃ s, P n s ∧ Rath M Q n s
theorem Stab.onto (hP : Stab M P) (hQ : Stab M Q) {m : Nat} (hm : X M P Q m) : ∃ n s, X M P Q n ∧ P n s ∧ Q m s := by
  have key : ∀ n, ∃ k, X M P Q n → X M P Q k ∧ ∃ s, P n s ∧ Q k s := fun n => by
    by_cases h : X M P Q n
    · obtain ⟨s, hp, hr⟩ := h
      obtain ⟨k, hk, _, t, ht, hlt⟩ := hP.chain hQ hp hr
      exact ⟨k, fun _ => ⟨⟨t, ht, fun u hu => by have := hQ.fn hu hk; subst this; exact hlt⟩, s, hp, hk⟩⟩
    · exact ⟨0, fun h' => absurd h' h⟩
  let f : Nat → Nat := fun n => Classical.choose (key n)
  have hf : ∀ n, X M P Q n → X M P Q (f n) ∧ ∃ s, P n s ∧ Q (f n) s := fun n => Classical.choose_spec (key n)
  obtain ⟨n, hn, e⟩ := inj_surj M.N (X M P Q) f (fun n ⟨s, hp, _⟩ => M.bn (hP.acc hp)) (fun n h => (hf n h).1) (fun n m hn hm e => by
    obtain ⟨s, h1, h2⟩ := (hf n hn).2
    obtain ⟨t, h3, h4⟩ := (hf m hm).2
    rw [e] at h2
    have := hQ.fn h2 h4
    subst this
    exact hP.fs h1 h3) m hm
  obtain ⟨s, h1, h2⟩ := (hf n hn).2
  rw [e] at h2
  exact ⟨n, s, hn, h1, h2⟩
/-- THE SAME NATIONS HAVE STARS. -/
theorem Stab.rural (hP : Stab M P) (hQ : Stab M Q) {n s : Nat} (hp : P n s) : ∃ t, Q n t := by
  apply Classical.byContradiction
  intro hno
  obtain ⟨_, t, _, _, h⟩ := hP.onto hQ (m := n) ⟨s, hp, fun t ht => absurd ⟨t, ht⟩ hno⟩
  exact hno ⟨t, h⟩
theorem Stab.ruralS (hP : Stab M P) (hQ : Stab M Q) {n s : Nat} (hp : P n s) : ∃ m, Q m s := hP.dual.rural (M := M.dual) hQ.dual hp

/-- In the better of two, n has s. -/
def J (M : Mk) (P Q : Nat → Nat → Prop) (n s : Nat) : Prop := (P n s ∧ ∀ t, Q n t → M.rn n s ≤ M.rn n t) ∨ (Q n s ∧ ∀ t, P n t → M.rn n s ≤ M.rn n t)
/-- In the worse of two, n has s. -/
def W (M : Mk) (P Q : Nat → Nat → Prop) (n s : Nat) : Prop := (P n s ∧ ∀ t, Q n t → M.rn n t ≤ M.rn n s) ∨ (Q n s ∧ ∀ t, P n t → M.rn n t ≤ M.rn n s)
theorem J_comm (n s : Nat) : J M P Q n s ↔ J M Q P n s := Or.comm
theorem W_comm (n s : Nat) : W M P Q n s ↔ W M Q P n s := Or.comm
theorem J_left (hP : Stab M P) {n s : Nat} (hp : P n s) : ∃ t, J M P Q n t ∧ M.rn n t ≤ M.rn n s := by
  by_cases h : ∃ u, Q n u ∧ M.rn n u < M.rn n s
  · obtain ⟨u, hu, hlt⟩ := h
    exact ⟨u, .inr ⟨hu, fun t ht => by have := hP.fn ht hp; subst this; omega⟩, by omega⟩
  · refine ⟨s, .inl ⟨hp, fun t ht => ?_⟩, Nat.le_refl _⟩
    apply Classical.byContradiction
    intro hc
    exact h ⟨t, ht, by omega⟩
theorem J_right (hQ : Stab M Q) {n s : Nat} (hq : Q n s) : ∃ t, J M P Q n t ∧ M.rn n t ≤ M.rn n s := by
  obtain ⟨t, h1, h2⟩ := J_left hQ hq
  exact ⟨t, (J_comm n t).1 h1, h2⟩
theorem J_mix (hP : Stab M P) (hQ : Stab M Q) {n m s : Nat} (hp : P n s) (h1 : ∀ t, Q n t → M.rn n s ≤ M.rn n t) (hq : Q m s) (h2 : ∀ t, P m t → M.rn m s ≤ M.rn m t) : n = m := by
  by_cases h : Rath M Q n s
  · obtain ⟨k, hk, _, t, ht, hlt⟩ := hP.chain hQ hp h
    have := hQ.fs hk hq
    subst this
    have := h2 t ht
    omega
  · obtain ⟨t, ht0⟩ := Classical.not_forall.1 h
    obtain ⟨ht, hge⟩ := Classical.not_imp.1 ht0
    have := h1 t ht
    have := M.jn (hQ.acc ht) (hP.acc hp) (by omega)
    subst this
    exact hQ.fs ht hq
theorem J_stab (hP : Stab M P) (hQ : Stab M Q) : Stab M (J M P Q) where
  acc := by
    rintro n s (⟨h, _⟩ | ⟨h, _⟩)
    · exact hP.acc h
    · exact hQ.acc h
  fn := by
    rintro n s t (⟨h1, h2⟩ | ⟨h1, h2⟩) (⟨h3, h4⟩ | ⟨h3, h4⟩)
    · exact hP.fn h1 h3
    · exact M.jn (hP.acc h1) (hQ.acc h3) (Nat.le_antisymm (h2 t h3) (h4 s h1))
    · exact M.jn (hQ.acc h1) (hP.acc h3) (Nat.le_antisymm (h2 t h3) (h4 s h1))
    · exact hQ.fn h1 h3
  fs := by
    rintro n m s (⟨h1, h2⟩ | ⟨h1, h2⟩) (⟨h3, h4⟩ | ⟨h3, h4⟩)
    · exact hP.fs h1 h3
    · exact J_mix hP hQ h1 h2 h3 h4
    · exact (J_mix hP hQ h3 h4 h1 h2).symm
    · exact hQ.fs h1 h3
  dom := by
    intro n s ha
    rcases hP.dom ha with ⟨t, ht, hle⟩ | ⟨m, hm, hle⟩
    · obtain ⟨u, hu, hlu⟩ := J_left hP ht
      exact .inl ⟨u, hu, by omega⟩
    rcases hQ.dom ha with ⟨t, ht, hle'⟩ | ⟨k, hk, hle'⟩
    · obtain ⟨u, hu, hlu⟩ := J_right hQ ht
      exact .inl ⟨u, hu, by omega⟩
    right
    by_cases h1 : ∀ t, Q m t → M.rn m s ≤ M.rn m t
    · exact ⟨m, .inl ⟨hm, h1⟩, hle⟩
    by_cases h2 : ∀ t, P k t → M.rn k s ≤ M.rn k t
    · exact ⟨k, .inr ⟨hk, h2⟩, hle'⟩
    exfalso
    obtain ⟨t, ht0⟩ := Classical.not_forall.1 h1
    obtain ⟨ht, hlt⟩ := Classical.not_imp.1 ht0
    obtain ⟨u, hu0⟩ := Classical.not_forall.1 h2
    obtain ⟨hu, hlu⟩ := Classical.not_imp.1 hu0
    obtain ⟨n', s', hx, hp', hq'⟩ := hP.onto hQ (m := k) ⟨u, hu, fun v hv => by have := hQ.fn hv hk; subst this; omega⟩
    have := hQ.fn hq' hk
    subst this
    have := hP.fs hp' hm
    subst this
    obtain ⟨v, hv, hr⟩ := hx
    have := hP.fn hv hp'
    subst this
    have := hr t ht
    omega
/-- For stars the worse is the better. -/
theorem W_star (hP : Stab M P) (hQ : Stab M Q) {n s : Nat} : (P n s ∧ ∀ t, Q n t → M.rn n t ≤ M.rn n s) ↔ (P n s ∧ ∀ m, Q m s → M.rs s n ≤ M.rs s m) := by
  constructor
  · rintro ⟨hp, h⟩
    refine ⟨hp, fun m hm => ?_⟩
    apply Classical.byContradiction
    intro hc
    obtain ⟨t, ht, hlt⟩ := hP.blockS (hQ.acc hm) (fun k hk => by have := hP.fs hk hp; subst this; omega)
    obtain ⟨n', s', hx, hp', hq'⟩ := hP.onto hQ (m := m) ⟨t, ht, fun v hv => by have := hQ.fn hv hm; subst this; omega⟩
    have := hQ.fn hq' hm
    subst this
    have := hP.fs hp' hp
    subst this
    obtain ⟨v, hv, hr⟩ := hx
    have := hP.fn hv hp
    subst this
    obtain ⟨u, hu⟩ := hP.rural hQ hp
    have := hr u hu
    have := h u hu
    omega
  · rintro ⟨hp, h⟩
    refine ⟨hp, fun t ht => ?_⟩
    apply Classical.byContradiction
    intro hc
    obtain ⟨m, hm, hlt⟩ := hQ.block (hP.acc hp) (fun u hu => by have := hQ.fn hu ht; subst this; omega)
    have := h m hm
    omega
theorem W_dual (hP : Stab M P) (hQ : Stab M Q) (n s : Nat) : W M P Q n s ↔ J M.dual (fun s n => P n s) (fun s n => Q n s) s n := by
  unfold W J
  rw [W_star hP hQ, W_star hQ hP]
  rfl
theorem Stab.congr {P' : Nat → Nat → Prop} (hP : Stab M P) (h : ∀ n s, P n s ↔ P' n s) : Stab M P' := by
  have : P = P' := funext fun n => funext fun s => propext (h n s)
  subst this
  exact hP
theorem W_stab (hP : Stab M P) (hQ : Stab M Q) : Stab M (W M P Q) :=
  (Stab.ofDual (P := fun n s => J M.dual (fun s n => P n s) (fun s n => Q n s) s n) (J_stab hP.dual hQ.dual)).congr fun n s => (W_dual hP hQ n s).symm
/-- The better one for nations, for stars: each has the one of the two that it would rather not have. -/
theorem J_star (hP : Stab M P) (hQ : Stab M Q) {n s : Nat} (h : J M P Q n s) : (∀ m, P m s → M.rs s m ≤ M.rs s n) ∧ (∀ m, Q m s → M.rs s m ≤ M.rs s n) := by
  have key : ∀ {P Q : Nat → Nat → Prop}, Stab M P → Stab M Q → (P n s ∧ ∀ t, Q n t → M.rn n s ≤ M.rn n t) → (∀ m, P m s → M.rs s m ≤ M.rs s n) ∧ (∀ m, Q m s → M.rs s m ≤ M.rs s n) := by
    rintro P Q hP hQ ⟨h1, h2⟩
    refine ⟨fun m hm => by have := hP.fs hm h1; subst this; exact Nat.le_refl _, fun m hm => ?_⟩
    apply Classical.byContradiction
    intro hc
    obtain ⟨t, ht, hlt⟩ := hQ.blockS (hP.acc h1) (fun k hk => by have := hQ.fs hk hm; subst this; omega)
    have := h2 t ht
    omega
  rcases h with h | h
  · exact key hP hQ h
  · exact (key hQ hP h).symm

/-- The nations' best settled matching. -/
structure Opt (M : Mk) (F : Nat → Nat → Prop) : Prop where
  stab : Stab M F
  best : ∀ {P : Nat → Nat → Prop}, Stab M P → ∀ {n s}, P n s → ∃ t, F n t ∧ M.rn n t ≤ M.rn n s
theorem Opt.star {F : Nat → Nat → Prop} (hF : Opt M F) (hP : Stab M P) {n s : Nat} (h : F n s) : ∃ m, P m s ∧ M.rs s m ≤ M.rs s n := by
  obtain ⟨m, hm⟩ := hF.stab.ruralS hP h
  refine ⟨m, hm, ?_⟩
  apply Classical.byContradiction
  intro hc
  obtain ⟨t, ht, hlt⟩ := hP.blockS (hF.stab.acc h) (fun k hk => by have := hP.fs hk hm; subst this; omega)
  obtain ⟨u, hu, hle⟩ := hF.best hP ht
  have := hF.stab.fn hu h
  subst this
  omega
theorem Opt.unique {F G : Nat → Nat → Prop} (hF : Opt M F) (hG : Opt M G) (n s : Nat) : F n s ↔ G n s := by
  constructor
  · intro h
    obtain ⟨t, ht, hle⟩ := hG.best hF.stab h
    obtain ⟨u, hu, hle2⟩ := hF.best hG.stab ht
    have := hF.stab.fn hu h
    subst this
    have := M.jn (hG.stab.acc ht) (hF.stab.acc h) (by omega)
    subst this
    exact ht
  · intro h
    obtain ⟨t, ht, hle⟩ := hF.best hG.stab h
    obtain ⟨u, hu, hle2⟩ := hG.best hF.stab ht
    have := hG.stab.fn hu h
    subst this
    have := M.jn (hF.stab.acc ht) (hG.stab.acc h) (by omega)
    subst this
    exact ht
end SM
end Go.Proofs.Ytieaibebnkdmhaa
