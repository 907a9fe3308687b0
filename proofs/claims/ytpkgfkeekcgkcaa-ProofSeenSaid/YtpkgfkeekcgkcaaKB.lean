import Derived.Lib.Hide
import Derived.Test.YtpkgfkeekcgkcaaKA
import Derived.Deep.OwnRows
import Derived.Maps.AppendAt
/-  The longest common part of two texts; the fewest marks: the theory, with no program in sight. -/
namespace Go.Proofs.Ytpkgfkeekcgkcaa
namespace Lcs

def ch (a : List UInt8) (i : Nat) : UInt8 := a.getD i 0
/-- how long a common part of the first i letters of a and the first j letters of b can be -/
def lc (a b : List UInt8) : Nat → Nat → Nat
  | 0, _ => 0
  | _ + 1, 0 => 0
  | i + 1, j + 1 => if ch a i = ch b j then lc a b i j + 1 else max (lc a b (i + 1) j) (lc a b i (j + 1))
theorem lc_zero (a b : List UInt8) (i : Nat) : lc a b i 0 = 0 := by cases i <;> simp [lc]
theorem zero_lc (a b : List UInt8) (j : Nat) : lc a b 0 j = 0 := by simp [lc]
theorem lc_step (a b : List UInt8) : ∀ i j, (lc a b i j ≤ lc a b (i + 1) j ∧ lc a b (i + 1) j ≤ lc a b i j + 1) ∧ (lc a b i j ≤ lc a b i (j + 1) ∧ lc a b i (j + 1) ≤ lc a b i j + 1)
  | 0, 0 => by simp [lc]
  | i + 1, 0 => by
    have h := (lc_step a b i 0).2
    rw [lc_zero] at h
    rw [lc_zero, lc_zero, lc]
    have h0 : lc a b (i + 1) 0 = 0 := lc_zero a b _
    split
    · rw [lc_zero]; omega
    · rw [h0]; simp only [Nat.max_def]; split <;> omega
  | 0, j + 1 => by
    have h := (lc_step a b 0 j).1
    rw [zero_lc] at h
    rw [zero_lc, zero_lc, lc]
    have h0 : lc a b 0 (j + 1) = 0 := zero_lc a b _
    split
    · rw [zero_lc]; omega
    · rw [h0]; simp only [Nat.max_def]; split <;> omega
  | i + 1, j + 1 => by
    have h1 := lc_step a b i j
    have h2 := lc_step a b (i + 1) j
    have h3 := lc_step a b i (j + 1)
    have e1 : lc a b (i + 1) (j + 1) = if ch a i = ch b j then lc a b i j + 1 else max (lc a b (i + 1) j) (lc a b i (j + 1)) := by rw [lc]
    have e2 : lc a b (i + 1 + 1) (j + 1) = if ch a (i + 1) = ch b j then lc a b (i + 1) j + 1 else max (lc a b (i + 1 + 1) j) (lc a b (i + 1) (j + 1)) := by rw [lc]
    have e3 : lc a b (i + 1) (j + 1 + 1) = if ch a i = ch b (j + 1) then lc a b i (j + 1) + 1 else max (lc a b (i + 1) (j + 1)) (lc a b i (j + 1 + 1)) := by rw [lc]
    generalize lc a b (i + 1) (j + 1) = A at *
    generalize lc a b (i + 1 + 1) (j + 1) = B at *
    generalize lc a b (i + 1) (j + 1 + 1) = C at *
    generalize lc a b i j = D at *
    generalize lc a b (i + 1) j = E at *
    generalize lc a b i (j + 1) = F at *
    generalize lc a b (i + 1 + 1) j = G at *
    generalize lc a b i (j + 1 + 1) = K at *
    simp only [Nat.max_def] at e1 e2 e3
    refine ⟨?_, ?_⟩
    · split at e2
      · split at e1
        · omega
        · split at e1 <;> omega
      · split at e2 <;> omega
    · split at e3
      · split at e1
        · omega
        · split at e1 <;> omega
      · split at e3 <;> omega
theorem lc_mono_i (a b : List UInt8) {i i' j : Nat} (h : i ≤ i') : lc a b i j ≤ lc a b i' j := by
  induction h with
  | refl => exact Nat.le_refl _
  | step _ ih => exact Nat.le_trans ih (lc_step a b _ j).1.1
theorem lc_mono_j (a b : List UInt8) {i j j' : Nat} (h : j ≤ j') : lc a b i j ≤ lc a b i j' := by
  induction h with
  | refl => exact Nat.le_refl _
  | step _ ih => exact Nat.le_trans ih (lc_step a b i _).2.1
theorem lc_mono (a b : List UInt8) {i i' j j' : Nat} (h : i ≤ i') (h2 : j ≤ j') : lc a b i j ≤ lc a b i' j' := Nat.le_trans (lc_mono_i a b h) (lc_mono_j a b h2)
/-- as the program reckons it -/
theorem lc_max (a b : List UInt8) (i j : Nat) : lc a b (i + 1) (j + 1) = max (max (if ch a i = ch b j then lc a b i j + 1 else 0) (lc a b (i + 1) j)) (lc a b i (j + 1)) := by
  have h1 := lc_step a b i j
  have e1 : lc a b (i + 1) (j + 1) = if ch a i = ch b j then lc a b i j + 1 else max (lc a b (i + 1) j) (lc a b i (j + 1)) := by rw [lc]
  rw [e1]
  generalize lc a b i j = D at *
  generalize lc a b (i + 1) j = E at *
  generalize lc a b i (j + 1) = F at *
  simp only [Nat.max_def]
  repeat' split
  all_goals omega
/-- A common part: pairs of equal letters, both increasing. -/
structure CP (a b : List UInt8) (ps : List (Nat × Nat)) : Prop where
  eq : ∀ p ∈ ps, p.1 < a.length ∧ p.2 < b.length ∧ ch a p.1 = ch b p.2
  inc : ps.Pairwise fun p q => p.1 < q.1 ∧ p.2 < q.2
theorem CP.nil (a b : List UInt8) : CP a b [] := ⟨fun _ h => absurd h (by simp), List.Pairwise.nil⟩
theorem CP.snoc {a b : List UInt8} {ps : List (Nat × Nat)} (h : CP a b ps) {p : Nat × Nat} (h1 : p.1 < a.length ∧ p.2 < b.length ∧ ch a p.1 = ch b p.2) (h2 : ∀ q ∈ ps, q.1 < p.1 ∧ q.2 < p.2) : CP a b (ps ++ [p]) :=
  ⟨fun q hq => by
    rcases List.mem_append.1 hq with hq | hq
    · exact h.eq q hq
    · have : q = p := by simpa using hq
      subst this; exact h1, List.pairwise_append.2 ⟨h.inc, by simp, fun q hq r hr => by
      have : r = p := by simpa using hr
      subst this; exact h2 q hq⟩⟩
theorem cp_ex (a b : List UInt8) : ∀ i j, i ≤ a.length → j ≤ b.length → ∃ ps, CP a b ps ∧ ps.length = lc a b i j ∧ ∀ p ∈ ps, p.1 < i ∧ p.2 < j
  | 0, j, _, _ => ⟨[], CP.nil a b, by simp [lc], fun _ h => absurd h (by simp)⟩
  | i + 1, 0, _, _ => ⟨[], CP.nil a b, by simp [lc], fun _ h => absurd h (by simp)⟩
  | i + 1, j + 1, hi, hj => by
    rw [lc]
    by_cases e : ch a i = ch b j
    · rw [if_pos e]
      obtain ⟨ps, h1, h2, h3⟩ := cp_ex a b i j (by omega) (by omega)
      refine ⟨ps ++ [(i, j)], h1.snoc ⟨hi, hj, e⟩ h3, by simp [h2], fun p hp => ?_⟩
      rcases List.mem_append.1 hp with hp | hp
      · have := h3 p hp; omega
      · have : p = (i, j) := by simpa using hp
        subst this; simp
    · rw [if_neg e]
      rcases Nat.le_total (lc a b (i + 1) j) (lc a b i (j + 1)) with h | h
      · rw [Nat.max_eq_right h]
        obtain ⟨ps, h1, h2, h3⟩ := cp_ex a b i (j + 1) (by omega) hj
        exact ⟨ps, h1, h2, fun p hp => by have := h3 p hp; omega⟩
      · rw [Nat.max_eq_left h]
        obtain ⟨ps, h1, h2, h3⟩ := cp_ex a b (i + 1) j hi (by omega)
        exact ⟨ps, h1, h2, fun p hp => by have := h3 p hp; omega⟩
theorem cp_le (a b : List UInt8) : ∀ (ps : List (Nat × Nat)) (i j : Nat), CP a b ps.reverse → (∀ p ∈ ps, p.1 < i ∧ p.2 < j) → ps.length ≤ lc a b i j
  | [], i, j, _, _ => Nat.zero_le _
  | p :: ps, i, j, h, hlt => by
    have hp := h.eq p (by simp)
    have h1 := hlt p (by simp)
    have hinc := h.inc
    rw [List.reverse_cons, List.pairwise_append] at hinc
    have h2 : ∀ q ∈ ps, q.1 < p.1 ∧ q.2 < p.2 := fun q hq => hinc.2.2 q (by simpa using hq) p (by simp)
    have ih := cp_le a b ps p.1 p.2 ⟨fun q hq => h.eq q (by simp at hq ⊢; exact .inl hq), hinc.1⟩ h2
    have e : lc a b (p.1 + 1) (p.2 + 1) = lc a b p.1 p.2 + 1 := by rw [lc, if_pos hp.2.2]
    have := lc_mono a b (show p.1 + 1 ≤ i by omega) (show p.2 + 1 ≤ j by omega)
    rw [List.length_cons]; omega
/-- the longest common part -/
def len (a b : List UInt8) : Nat := lc a b a.length b.length
theorem len_ex (a b : List UInt8) : ∃ ps, CP a b ps ∧ ps.length = len a b := by
  obtain ⟨ps, h1, h2, _⟩ := cp_ex a b _ _ (Nat.le_refl _) (Nat.le_refl _)
  exact ⟨ps, h1, h2⟩
theorem CP.le {a b : List UInt8} {ps : List (Nat × Nat)} (h : CP a b ps) : ps.length ≤ len a b := by
  have := cp_le a b ps.reverse a.length b.length (by rw [List.reverse_reverse]; exact h) fun p hp => by
    have := h.eq p (by simpa using hp)
    exact ⟨this.1, this.2.1⟩
  show ps.length ≤ lc a b a.length b.length
  rwa [List.length_reverse] at this
theorem len_le (a b : List UInt8) : len a b ≤ a.length ∧ len a b ≤ b.length := by
  have key : ∀ i j, lc a b i j ≤ i ∧ lc a b i j ≤ j := by
    intro i
    induction i with
    | zero => intro j; simp [lc]
    | succ i ih =>
      intro j
      induction j with
      | zero => simp [lc]
      | succ j ihj =>
        have h1 := ih j
        have h2 := ih (j + 1)
        rw [lc]
        split
        · omega
        · simp only [Nat.max_def]; split <;> omega
  exact key _ _
/-- the fewest marks -/
def few (a b : List UInt8) : Nat := a.length + b.length - 2 * len a b
theorem few_eq (a b : List UInt8) : few a b + 2 * len a b = a.length + b.length := by
  have := len_le a b
  rw [few]; omega
theorem CP.swap {a b : List UInt8} {ps : List (Nat × Nat)} (h : CP a b ps) : CP b a (ps.map fun p => (p.2, p.1)) :=
  ⟨fun p hp => by
    obtain ⟨q, hq, rfl⟩ := List.mem_map.1 hp
    have := h.eq q hq
    exact ⟨this.2.1, this.1, this.2.2.symm⟩, by
    rw [List.pairwise_map]
    exact h.inc.imp fun h => ⟨h.2, h.1⟩⟩
theorem len_comm (a b : List UInt8) : len a b = len b a := by
  have key : ∀ a b, len a b ≤ len b a := fun a b => by
    obtain ⟨ps, h, e⟩ := len_ex a b
    have := h.swap.le
    rw [List.length_map, e] at this; exact this
  exact Nat.le_antisymm (key a b) (key b a)
theorem few_comm (a b : List UInt8) : few a b = few b a := by rw [few, few, len_comm, Nat.add_comm]
theorem ch_rev {a : List UInt8} {i : Nat} (h : i < a.length) : ch a.reverse (a.length - 1 - i) = ch a i := by
  rw [ch, ch, List.getD_eq_getElem?_getD, List.getD_eq_getElem?_getD, List.getElem?_reverse (by omega)]
  rw [show a.length - 1 - (a.length - 1 - i) = i by omega]
theorem CP.rev {a b : List UInt8} {ps : List (Nat × Nat)} (h : CP a b ps) : CP a.reverse b.reverse (ps.map fun p => (a.length - 1 - p.1, b.length - 1 - p.2)).reverse :=
  ⟨fun p hp => by
    obtain ⟨q, hq, rfl⟩ := List.mem_map.1 (by simpa using hp : p ∈ ps.map fun p => (a.length - 1 - p.1, b.length - 1 - p.2))
    have := h.eq q hq
    refine ⟨by simp; omega, by simp; omega, ?_⟩
    rw [ch_rev this.1, ch_rev this.2.1, this.2.2], by
    rw [List.pairwise_reverse, List.pairwise_map]
    refine h.inc.imp_of_mem fun {p q} hp hq h1 => ?_
    have h2 := h.eq p hp
    have h3 := h.eq q hq
    dsimp only
    omega⟩
theorem len_rev (a b : List UInt8) : len a.reverse b.reverse = len a b := by
  have key : ∀ a b, len a b ≤ len a.reverse b.reverse := fun a b => by
    obtain ⟨ps, h, e⟩ := len_ex a b
    have := h.rev.le
    rw [List.length_reverse, List.length_map, e] at this; exact this
  refine Nat.le_antisymm ?_ (key a b)
  have := key a.reverse b.reverse
  rwa [List.reverse_reverse, List.reverse_reverse] at this
theorem few_rev (a b : List UInt8) : few a.reverse b.reverse = few a b := by rw [few, few, len_rev, List.length_reverse, List.length_reverse]
theorem ch_app_l {a c : List UInt8} {i : Nat} (h : i < a.length) : ch (a ++ c) i = ch a i := by rw [ch, ch, List.getD_eq_getElem?_getD, List.getD_eq_getElem?_getD, List.getElem?_append_left h]
theorem ch_app_r (a c : List UInt8) (i : Nat) : ch (a ++ c) (a.length + i) = ch c i := by
  rw [ch, ch, List.getD_eq_getElem?_getD, List.getD_eq_getElem?_getD, List.getElem?_append_right (by omega), show a.length + i - a.length = i by omega]
theorem CP.app {a b c d : List UInt8} {ps qs : List (Nat × Nat)} (h : CP a b ps) (k : CP c d qs) : CP (a ++ c) (b ++ d) (ps ++ qs.map fun p => (a.length + p.1, b.length + p.2)) :=
  ⟨fun p hp => by
    rcases List.mem_append.1 hp with hp | hp
    · have := h.eq p hp
      refine ⟨by simp; omega, by simp; omega, ?_⟩
      rw [ch_app_l this.1, ch_app_l this.2.1, this.2.2]
    · obtain ⟨q, hq, rfl⟩ := List.mem_map.1 hp
      have := k.eq q hq
      refine ⟨by simp; omega, by simp; omega, ?_⟩
      rw [ch_app_r, ch_app_r, this.2.2], List.pairwise_append.2 ⟨h.inc, by
      rw [List.pairwise_map]
      exact k.inc.imp fun h => by dsimp only; omega, fun p hp q hq => by
      obtain ⟨r, _, rfl⟩ := List.mem_map.1 hq
      have := h.eq p hp
      dsimp only; omega⟩⟩
theorem len_app (a b c d : List UInt8) : len a b + len c d ≤ len (a ++ c) (b ++ d) := by
  obtain ⟨ps, h, e⟩ := len_ex a b
  obtain ⟨qs, k, f⟩ := len_ex c d
  have := (h.app k).le
  rw [List.length_append, List.length_map, e, f] at this; exact this
theorem few_app (a b c d : List UInt8) : few (a ++ c) (b ++ d) ≤ few a b + few c d := by
  have := len_app a b c d
  have h1 := few_eq a b
  have h2 := few_eq c d
  have h3 := few_eq (a ++ c) (b ++ d)
  rw [List.length_append, List.length_append] at h3
  omega
theorem CP.same (a : List UInt8) : CP a a ((List.range a.length).map fun i => (i, i)) :=
  ⟨fun p hp => by
    obtain ⟨i, hi, rfl⟩ := List.mem_map.1 hp
    exact ⟨List.mem_range.1 hi, List.mem_range.1 hi, rfl⟩, by
    rw [List.pairwise_map]
    exact List.pairwise_lt_range.imp fun h => ⟨h, h⟩⟩
theorem len_self (a : List UInt8) : len a a = a.length := by
  have h1 := (CP.same a).le
  have h2 := (len_le a a).1
  rw [List.length_map, List.length_range] at h1
  omega
theorem few_self (a : List UInt8) : few a a = 0 := by rw [few, len_self]; omega
/-- the same letter ahead -/
theorem len_cons (x : UInt8) (s t : List UInt8) : len (x :: s) (x :: t) = len s t + 1 := by
  refine Nat.le_antisymm ?_ ?_
  · obtain ⟨ps, h, e⟩ := len_ex (x :: s) (x :: t)
    rw [← e]
    match ps, h with
    | [], _ => exact Nat.zero_le _
    | p :: ps, h =>
      obtain ⟨h1, h2⟩ := List.pairwise_cons.1 h.inc
      have k : CP s t (ps.map fun q => (q.1 - 1, q.2 - 1)) := ⟨fun r hr => by
        obtain ⟨q, hq, rfl⟩ := List.mem_map.1 hr
        have h3 := h1 q hq
        have h4 := h.eq q (by simp [hq])
        simp only [List.length_cons] at h4
        refine ⟨by dsimp only; omega, by dsimp only; omega, ?_⟩
        have e1 : ch (x :: s) q.1 = ch s (q.1 - 1) := by
          obtain ⟨m, hm⟩ : ∃ m, q.1 = m + 1 := ⟨q.1 - 1, by omega⟩
          rw [hm]; rfl
        have e2 : ch (x :: t) q.2 = ch t (q.2 - 1) := by
          obtain ⟨m, hm⟩ : ∃ m, q.2 = m + 1 := ⟨q.2 - 1, by omega⟩
          rw [hm]; rfl
        rw [← e1, ← e2]; exact h4.2.2, by
        rw [List.pairwise_map]
        refine h2.imp_of_mem fun {u v} hu hv huv => ?_
        have h5 := h1 u hu
        have h6 := h1 v hv
        dsimp only; omega⟩
      have := k.le
      rw [List.length_map] at this
      rw [List.length_cons]; omega
  · have := len_app [x] [x] s t
    rw [len_self] at this
    simpa [Nat.add_comm] using this
theorem len_pre (a b d : List UInt8) : len (a ++ b) (a ++ d) = a.length + len b d := by
  induction a with
  | nil => simp
  | cons x a ih => rw [List.cons_append, List.cons_append, len_cons, ih, List.length_cons]; omega
theorem few_pre (a b d : List UInt8) : few (a ++ b) (a ++ d) = few b d := by
  have h1 := few_eq (a ++ b) (a ++ d)
  have h2 := few_eq b d
  rw [len_pre, List.length_append, List.length_append] at h1
  omega
theorem few_post (a b d : List UInt8) : few (b ++ a) (d ++ a) = few b d := by
  rw [← few_rev, List.reverse_append, List.reverse_append, few_pre, few_rev]
/-- other letters, alike in both -/
theorem few_map (f : UInt8 → UInt8) (a b : List UInt8) (hf : ∀ x ∈ a, ∀ y ∈ b, f x = f y ↔ x = y) : few (a.map f) (b.map f) = few a b := by
  have hch : ∀ (l : List UInt8) i, i < l.length → ch (l.map f) i = f (ch l i) ∧ ch l i ∈ l := fun l i hi => by simp [ch, hi]
  have key : ∀ ps, CP (a.map f) (b.map f) ps ↔ CP a b ps := fun ps => by
    constructor
    · intro h
      refine ⟨fun p hp => ?_, h.inc⟩
      have := h.eq p hp
      rw [List.length_map, List.length_map] at this
      obtain ⟨e1, m1⟩ := hch a p.1 this.1
      obtain ⟨e2, m2⟩ := hch b p.2 this.2.1
      rw [e1, e2] at this
      exact ⟨this.1, this.2.1, (hf _ m1 _ m2).1 this.2.2⟩
    · intro h
      refine ⟨fun p hp => ?_, h.inc⟩
      have := h.eq p hp
      obtain ⟨e1, m1⟩ := hch a p.1 this.1
      obtain ⟨e2, m2⟩ := hch b p.2 this.2.1
      rw [List.length_map, List.length_map, e1, e2]
      exact ⟨this.1, this.2.1, congrArg f this.2.2⟩
  have hlen : len (a.map f) (b.map f) = len a b := by
    refine Nat.le_antisymm ?_ ?_
    · obtain ⟨ps, h, e⟩ := len_ex (a.map f) (b.map f)
      rw [← e]; exact ((key ps).1 h).le
    · obtain ⟨ps, h, e⟩ := len_ex a b
      rw [← e]; exact ((key ps).2 h).le
  rw [few, few, hlen, List.length_map, List.length_map]
/-- both letters of pairs come in one order -/
theorem CP.lt {a b : List UInt8} {ps : List (Nat × Nat)} (h : CP a b ps) {p q : Nat × Nat} (hp : p ∈ ps) (hq : q ∈ ps) : (p.1 < q.1 ∧ p.2 < q.2) ∨ p = q ∨ (q.1 < p.1 ∧ q.2 < p.2) := by
  obtain ⟨i, hi, rfl⟩ := List.mem_iff_getElem.1 hp
  obtain ⟨j, hj, rfl⟩ := List.mem_iff_getElem.1 hq
  have hinc := List.pairwise_iff_getElem.1 h.inc
  rcases Nat.lt_trichotomy i j with h1 | h1 | h1
  · exact .inl (hinc i j hi hj h1)
  · subst h1; exact .inr (.inl rfl)
  · exact .inr (.inr (hinc j i hj hi h1))
theorem count_range (n : Nat) {l : List Nat} (hn : l.Nodup) (hl : ∀ x ∈ l, x < n) : (List.range n).countP (fun j => decide (j ∈ l)) = l.length := by
  induction n generalizing l with
  | zero =>
    cases l with
    | nil => rfl
    | cons x l => exact absurd (hl x (by simp)) (Nat.not_lt_zero _)
  | succ n ih =>
    rw [List.range_succ, List.countP_append]
    by_cases hm : n ∈ l
    · have h1 := ih (l := l.erase n) (hn.erase n) fun x hx => by
        have h2 := (hn.mem_erase_iff).1 hx
        have := hl x h2.2
        omega
      have h2 : (List.range n).countP (fun j => decide (j ∈ l)) = (List.range n).countP (fun j => decide (j ∈ l.erase n)) := List.countP_congr fun j hj => by
        have hj := List.mem_range.1 hj
        simp only [decide_eq_true_iff]
        rw [hn.mem_erase_iff]
        exact ⟨fun h => ⟨by omega, h⟩, fun h => h.2⟩
      have hpos : 0 < l.length := List.length_pos_of_mem hm
      rw [h2, h1, List.length_erase_of_mem hm]
      simp [hm]; omega
    · have h1 := ih hn fun x hx => by
        have := hl x hx
        have : x ≠ n := fun e => hm (e ▸ hx)
        omega
      rw [h1]; simp [hm]
theorem count_both {α : Type} (l : List α) (p q : α → Bool) : l.countP p + l.countP q ≤ l.length + l.countP fun x => p x && q x := by
  induction l with
  | nil => simp
  | cons x l ih =>
    simp only [List.countP_cons, List.length_cons]
    cases p x <;> cases q x <;> simp <;> omega
def fstOf (ps : List (Nat × Nat)) (j : Nat) : Nat := ((ps.find? fun p => p.2 == j).map (·.1)).getD 0
def sndOf (ps : List (Nat × Nat)) (j : Nat) : Nat := ((ps.find? fun p => p.1 == j).map (·.2)).getD 0
theorem fstOf_mem {ps : List (Nat × Nat)} {j : Nat} (h : j ∈ ps.map (·.2)) : (fstOf ps j, j) ∈ ps := by
  obtain ⟨p, hp, rfl⟩ := List.mem_map.1 h
  rw [fstOf]
  cases hf : ps.find? fun q => q.2 == p.2 with
  | none =>
    have := List.find?_eq_none.1 hf p hp
    simp at this
  | some q =>
    have h1 := List.mem_of_find?_eq_some hf
    have h2 := List.find?_some hf
    have h3 : q.2 = p.2 := by simpa using h2
    show (q.1, p.2) ∈ ps
    rw [← h3]; exact h1
theorem sndOf_mem {ps : List (Nat × Nat)} {j : Nat} (h : j ∈ ps.map (·.1)) : (j, sndOf ps j) ∈ ps := by
  obtain ⟨p, hp, rfl⟩ := List.mem_map.1 h
  rw [sndOf]
  cases hf : ps.find? fun q => q.1 == p.1 with
  | none =>
    have := List.find?_eq_none.1 hf p hp
    simp at this
  | some q =>
    have h1 := List.mem_of_find?_eq_some hf
    have h2 := List.find?_some hf
    have h3 : q.1 = p.1 := by simpa using h2
    show (p.1, q.2) ∈ ps
    rw [← h3]; exact h1
/-- over a second text to a third one -/
theorem len_via (a b c : List UInt8) : len a b + len b c ≤ b.length + len a c := by
  obtain ⟨ps, h, e⟩ := len_ex a b
  obtain ⟨qs, k, f⟩ := len_ex b c
  have n1 : (ps.map (·.2)).Nodup := by
    rw [List.Nodup, List.pairwise_map]
    exact h.inc.imp fun h => Nat.ne_of_lt h.2
  have n2 : (qs.map (·.1)).Nodup := by
    rw [List.Nodup, List.pairwise_map]
    exact k.inc.imp fun h => Nat.ne_of_lt h.1
  have c1 := count_range b.length n1 fun x hx => by obtain ⟨p, hp, rfl⟩ := List.mem_map.1 hx; exact (h.eq p hp).2.1
  have c2 := count_range b.length n2 fun x hx => by obtain ⟨p, hp, rfl⟩ := List.mem_map.1 hx; exact (k.eq p hp).1
  have c3 := count_both (List.range b.length) (fun j => decide (j ∈ ps.map (·.2))) (fun j => decide (j ∈ qs.map (·.1)))
  rw [c1, c2, List.length_map, List.length_map, List.length_range, List.countP_eq_length_filter] at c3
  obtain ⟨J, hJ⟩ : ∃ J, (List.range b.length).filter (fun j => decide (j ∈ ps.map (·.2)) && decide (j ∈ qs.map (·.1))) = J := ⟨_, rfl⟩
  rw [hJ] at c3
  have hm : ∀ j ∈ J, j ∈ ps.map (·.2) ∧ j ∈ qs.map (·.1) := fun j hj => by
    rw [← hJ, List.mem_filter] at hj
    simpa using hj.2
  have hinc : J.Pairwise (· < ·) := by rw [← hJ]; exact List.pairwise_lt_range.filter _
  have m : CP a c (J.map fun j => (fstOf ps j, sndOf qs j)) := ⟨fun r hr => by
    obtain ⟨j, hj, rfl⟩ := List.mem_map.1 hr
    have h1 := h.eq _ (fstOf_mem (hm j hj).1)
    have h2 := k.eq _ (sndOf_mem (hm j hj).2)
    exact ⟨h1.1, h2.2.1, h1.2.2.trans h2.2.2⟩, by
    rw [List.pairwise_map]
    refine hinc.imp_of_mem fun {u v} hu hv huv => ?_
    have h1 := h.lt (fstOf_mem (hm u hu).1) (fstOf_mem (hm v hv).1)
    have h2 := k.lt (sndOf_mem (hm u hu).2) (sndOf_mem (hm v hv).2)
    simp only [Prod.mk.injEq] at h1 h2
    dsimp only
    omega⟩
  have := m.le
  rw [List.length_map] at this
  omega
theorem few_via (a b c : List UInt8) : few a c ≤ few a b + few b c := by
  have := len_via a b c
  have h1 := few_eq a b
  have h2 := few_eq b c
  have h3 := few_eq a c
  omega
/-- no marks just if both are equal -/
theorem few_zero {a b : List UInt8} (h : few a b = 0) : a = b := by
  have h1 := few_eq a b
  have h2 := len_le a b
  have la : len a b = a.length := by omega
  have lb : len a b = b.length := by omega
  obtain ⟨ps, hp, e⟩ := len_ex a b
  have key : ∀ i (hi : i < ps.length), i ≤ ps[i].1 ∧ i ≤ ps[i].2 := by
    intro i
    induction i with
    | zero => intro _; exact ⟨Nat.zero_le _, Nat.zero_le _⟩
    | succ i ih =>
      intro hi
      have h3 := ih (by omega)
      have h4 := List.pairwise_iff_getElem.1 hp.inc i (i + 1) (by omega) hi (by omega)
      omega
  have key2 : ∀ k i (hi : i < ps.length), ps.length - 1 - i = k → ps[i].1 + k < a.length ∧ ps[i].2 + k < b.length := by
    intro k
    induction k with
    | zero =>
      intro i hi _
      have := hp.eq _ (List.getElem_mem hi)
      omega
    | succ k ih =>
      intro i hi hk
      have h3 := ih (i + 1) (by omega) (by omega)
      have h4 := List.pairwise_iff_getElem.1 hp.inc i (i + 1) hi (by omega) (by omega)
      omega
  refine List.ext_getElem (by omega) fun i hi hj => ?_
  have hi2 : i < ps.length := by omega
  have h3 := key i hi2
  have h4 := key2 _ i hi2 rfl
  have h5 := hp.eq _ (List.getElem_mem hi2)
  have e1 : ps[i].1 = i := by omega
  have e2 : ps[i].2 = i := by omega
  rw [e1, e2] at h5
  have h6 := h5.2.2
  simpa [ch, hi, hj] using h6
end Lcs
end Go.Proofs.Ytpkgfkeekcgkcaa

/-  Marks as words of additions, strikes and letters that are kept: reading, turning back; no program in sight. -/
namespace Go.Proofs.Ytpkgfkeekcgkcaa
namespace Lcs

inductive Op where
  | add (x : UInt8)
  | del (x : UInt8)
  | keep (x : UInt8)
  deriving DecidableEq
def Op.dual : Op → Op
  | .add x => .del x
  | .del x => .add x
  | .keep x => .keep x
theorem Op.dual_dual (o : Op) : o.dual.dual = o := by cases o <;> rfl
def dual (w : List Op) : List Op := w.map Op.dual
theorem dual_dual (w : List Op) : dual (dual w) = w := by
  rw [dual, dual, List.map_map]
  exact (List.map_congr_left fun o _ => Op.dual_dual o).trans (List.map_id w)
/-- the text, and the marked text, of a word -/
def txt : List Op → List UInt8
  | [] => []
  | .add _ :: w => txt w
  | .del x :: w => x :: txt w
  | .keep x :: w => x :: txt w
def mrk : List Op → List UInt8
  | [] => []
  | .add x :: w => x :: mrk w
  | .del _ :: w => mrk w
  | .keep x :: w => x :: mrk w
theorem txt_dual (w : List Op) : txt (dual w) = mrk w := by
  induction w with
  | nil => rfl
  | cons o w ih => cases o <;> simp [dual, Op.dual, txt, mrk] <;> exact ih
theorem mrk_dual (w : List Op) : mrk (dual w) = txt w := by rw [← txt_dual, dual_dual]
/-- the letters that are struck, from the k-th on -/
def stk : Nat → List Op → List Nat
  | _, [] => []
  | k, .add _ :: w => stk k w
  | k, .del _ :: w => k :: stk (k + 1) w
  | k, .keep _ :: w => stk (k + 1) w
/-- the strings that are added: one before each letter, and one at the end -/
def ads : List Op → List (List UInt8)
  | [] => [[]]
  | .add x :: w => match ads w with
    | [] => [[x]]
    | a :: l => (x :: a) :: l
  | .del _ :: w => [] :: ads w
  | .keep _ :: w => [] :: ads w
/-- how many marks -/
def cnt : List Op → Nat
  | [] => 0
  | .add _ :: w => cnt w + 1
  | .del _ :: w => cnt w + 1
  | .keep _ :: w => cnt w
theorem cnt_dual (w : List Op) : cnt (dual w) = cnt w := by
  induction w with
  | nil => rfl
  | cons o w ih => cases o <;> simp [dual, Op.dual, cnt] <;> exact ih
/-- the word of marks: of a text from its k-th letter on -/
def word (st : List Nat) : Nat → List UInt8 → List (List UInt8) → List Op
  | _, [], a :: _ => a.map .add
  | k, x :: t, a :: l => a.map .add ++ (if k ∈ st then Op.del x else Op.keep x) :: word st (k + 1) t l
  | _, _, [] => []
theorem txt_adds (a : List UInt8) (w : List Op) : txt (a.map .add ++ w) = txt w := by
  induction a with
  | nil => rfl
  | cons x a ih => simpa [txt] using ih
theorem mrk_adds (a : List UInt8) (w : List Op) : mrk (a.map .add ++ w) = a ++ mrk w := by
  induction a with
  | nil => rfl
  | cons x a ih => simpa [mrk] using ih
theorem stk_adds (k : Nat) (a : List UInt8) (w : List Op) : stk k (a.map .add ++ w) = stk k w := by
  induction a with
  | nil => rfl
  | cons x a ih => simpa [stk] using ih
theorem cnt_adds (a : List UInt8) (w : List Op) : cnt (a.map .add ++ w) = a.length + cnt w := by
  induction a with
  | nil => simp
  | cons x a ih => simp only [List.map_cons, List.cons_append, cnt, ih, List.length_cons]; omega
theorem ads_ne (w : List Op) : ads w ≠ [] := by
  cases w with
  | nil => simp [ads]
  | cons o w => cases o <;> simp [ads]; cases ads w <;> simp
theorem ads_adds (a : List UInt8) (w : List Op) : ads (a.map .add ++ w) = match ads w with | [] => [a] | b :: l => (a ++ b) :: l := by
  induction a with
  | nil => cases h : ads w with
    | nil => exact absurd h (ads_ne w)
    | cons b l => simp [h]
  | cons x a ih =>
    rw [List.map_cons, List.cons_append, ads, ih]
    cases h : ads w with
    | nil => exact absurd h (ads_ne w)
    | cons b l => rfl
theorem word_txt (st : List Nat) : ∀ (k : Nat) (t : List UInt8) (ad : List (List UInt8)), ad.length = t.length + 1 → txt (word st k t ad) = t
  | k, [], [a], _ => by
    rw [word]
    have := txt_adds a []
    rw [List.append_nil] at this
    rw [this]; rfl
  | k, x :: t, a :: l, h => by
    rw [word, txt_adds]
    have ih := word_txt st (k + 1) t l (by simpa using h)
    split <;> simp [txt, ih]
  | _, [], [], h => by simp at h
  | _, [], _ :: _ :: _, h => by simp at h
  | _, _ :: _, [], h => by simp at h
theorem word_ads (st : List Nat) : ∀ (k : Nat) (t : List UInt8) (ad : List (List UInt8)), ad.length = t.length + 1 → ads (word st k t ad) = ad
  | k, [], [a], _ => by
    rw [word]
    have := ads_adds a []
    rw [List.append_nil] at this
    rw [this]; simp [ads]
  | k, x :: t, a :: l, h => by
    have ih := word_ads st (k + 1) t l (by simpa using h)
    have e : ads ((if k ∈ st then Op.del x else Op.keep x) :: word st (k + 1) t l) = [] :: l := by split <;> simp [ads, ih]
    rw [word, ads_adds, e]; simp
  | _, [], [], h => by simp at h
  | _, [], _ :: _ :: _, h => by simp at h
  | _, _ :: _, [], h => by simp at h
/-- the letters of a list that are struck -/
theorem word_stk (st : List Nat) : ∀ (k : Nat) (t : List UInt8) (ad : List (List UInt8)), ad.length = t.length + 1 → stk k (word st k t ad) = (List.range' k t.length).filter fun i => decide (i ∈ st)
  | k, [], [a], _ => by
    rw [word]
    have := stk_adds k a []
    rw [List.append_nil] at this
    rw [this]; rfl
  | k, x :: t, a :: l, h => by
    rw [word, stk_adds, List.length_cons, List.range'_succ]
    have ih := word_stk st (k + 1) t l (by simpa using h)
    by_cases hk : k ∈ st
    · rw [if_pos hk, stk, ih, List.filter_cons, decide_eq_true hk, if_pos rfl]
    · rw [if_neg hk, stk, ih, List.filter_cons, decide_eq_false hk]; rfl
  | _, [], [], h => by simp at h
  | _, [], _ :: _ :: _, h => by simp at h
  | _, _ :: _, [], h => by simp at h
theorem inc_filter {n : Nat} : ∀ {k : Nat} {st : List Nat}, st.Pairwise (· < ·) → (∀ i ∈ st, k ≤ i ∧ i < k + n) → (List.range' k n).filter (fun i => decide (i ∈ st)) = st := by
  induction n with
  | zero =>
    intro k st _ h
    cases st with
    | nil => rfl
    | cons x st => have := h x (by simp); omega
  | succ n ih =>
    intro k st h1 h2
    rw [List.range'_succ, List.filter_cons]
    by_cases hk : k ∈ st
    · rw [decide_eq_true hk, if_pos rfl]
      match st, h1, h2, hk with
      | x :: s, h1, h2, hk =>
        obtain ⟨h3, h4⟩ := List.pairwise_cons.1 h1
        have hx : x = k := by
          rcases List.mem_cons.1 hk with e | e
          · exact e.symm
          · have := h3 k e
            have := h2 x (by simp)
            omega
        subst hx
        congr 1
        have := ih (k := x + 1) h4 fun i hi => by
          have := h3 i hi
          have := h2 i (by simp [hi])
          omega
        rw [← this]
        refine List.filter_congr fun i hi => ?_
        have hi := List.mem_range'_1.1 hi
        have hne : i ≠ x := by omega
        simp only [List.mem_cons, hne, false_or]
        rw [this]
    · rw [decide_eq_false hk]
      exact ih h1 fun i hi => by
        have := h2 i hi
        have : i ≠ k := fun e => hk (e ▸ hi)
        omega
/-- **A word is what its marks say.** -/
theorem word_of : ∀ (w : List Op) (k : Nat) (st : List Nat), (∀ i, k ≤ i → i < k + (txt w).length → (i ∈ st ↔ i ∈ stk k w)) → word st k (txt w) (ads w) = w
  | [], k, st, _ => rfl
  | .add x :: w, k, st, h => by
    have ih := word_of w k st h
    rw [txt, ads]
    cases ha : ads w with
    | nil => exact absurd ha (ads_ne w)
    | cons a l =>
      rw [ha] at ih
      show word st k (txt w) ((x :: a) :: l) = _
      cases ht : txt w with
      | nil => rw [ht] at ih; rw [word] at ih ⊢; rw [List.map_cons, ih]
      | cons y t => rw [ht] at ih; rw [word] at ih ⊢; rw [List.map_cons, List.cons_append, ih]
  | .del x :: w, k, st, h => by
    have h0 := (h k (Nat.le_refl _) (by simp [txt])).2 (by simp [stk])
    have ih := word_of w (k + 1) st fun i h1 h2 => by
      rw [h i (by omega) (by simp [txt]; omega), stk, List.mem_cons]
      exact ⟨fun h => h.resolve_left (by omega), .inr⟩
    rw [txt, ads, word, if_pos h0, ih]; rfl
  | .keep x :: w, k, st, h => by
    have h0 : k ∉ st := fun hk => by
      have := (h k (Nat.le_refl _) (by simp [txt])).1 hk
      rw [stk] at this
      have := stk_ge w (k + 1) k this
      omega
    have ih := word_of w (k + 1) st fun i h1 h2 => by rw [h i (by omega) (by simp [txt]; omega), stk]
    rw [txt, ads, word, if_neg h0, ih]; rfl
where
  stk_ge : ∀ (w : List Op) (k i : Nat), i ∈ stk k w → k ≤ i
  | [], _, _, h => by simp [stk] at h
  | .add _ :: w, k, i, h => stk_ge w k i h
  | .del _ :: w, k, i, h => by
    rw [stk, List.mem_cons] at h
    rcases h with h | h
    · omega
    · have := stk_ge w (k + 1) i h; omega
  | .keep _ :: w, k, i, h => by
    have := stk_ge w (k + 1) i h; omega
theorem ads_len : ∀ w : List Op, (ads w).length = (txt w).length + 1
  | [] => rfl
  | .add x :: w => by
    rw [ads, txt, ← ads_len w]
    cases h : ads w with
    | nil => exact absurd h (ads_ne w)
    | cons a l => rfl
  | .del x :: w => by rw [ads, txt, List.length_cons, List.length_cons, ads_len w]
  | .keep x :: w => by rw [ads, txt, List.length_cons, List.length_cons, ads_len w]
theorem stk_lt : ∀ (w : List Op) (k i : Nat), i ∈ stk k w → k ≤ i ∧ i < k + (txt w).length
  | [], _, _, h => by simp [stk] at h
  | .add _ :: w, k, i, h => stk_lt w k i h
  | .del _ :: w, k, i, h => by
    rw [stk, List.mem_cons] at h
    rw [txt, List.length_cons]
    rcases h with h | h
    · omega
    · have := stk_lt w (k + 1) i h; omega
  | .keep _ :: w, k, i, h => by
    have := stk_lt w (k + 1) i h
    rw [txt, List.length_cons]; omega
theorem stk_inc : ∀ (w : List Op) (k : Nat), (stk k w).Pairwise (· < ·)
  | [], _ => List.Pairwise.nil
  | .add _ :: w, k => stk_inc w k
  | .del _ :: w, k => List.pairwise_cons.2 ⟨fun i hi => by have := stk_lt w (k + 1) i hi; omega, stk_inc w (k + 1)⟩
  | .keep _ :: w, k => stk_inc w (k + 1)
/-- the fewest marks are no more -/
theorem few_word : ∀ w : List Op, few (txt w) (mrk w) ≤ cnt w
  | [] => by simp [txt, mrk, cnt, few, len, lc]
  | .add x :: w => by
    have h := few_app [] [x] (txt w) (mrk w)
    have h2 : few [] [x] ≤ 1 := by rw [few]; simp
    have ih := few_word w
    rw [txt, mrk, cnt]
    exact Nat.le_trans h (by omega)
  | .del x :: w => by
    have h := few_app [x] [] (txt w) (mrk w)
    have h2 : few [x] [] ≤ 1 := by rw [few]; simp
    have ih := few_word w
    rw [txt, mrk, cnt]
    exact Nat.le_trans h (by omega)
  | .keep x :: w => by
    have h := few_app [x] [x] (txt w) (mrk w)
    rw [few_self] at h
    have ih := few_word w
    rw [txt, mrk, cnt]
    exact Nat.le_trans h (by omega)
end Lcs
end Go.Proofs.Ytpkgfkeekcgkcaa

/-  Lists that are made; the table of the fewest marks. -/
namespace Go.Proofs.Ytpkgfkeekcgkcaa
open Go.RowKit
theorem Addr.some_block {a b : Nat} {o o' : Nat} (h : (some ⟨a, o, none⟩ : Option Addr) = some ⟨b, o', none⟩) : a = b := by cases h; rfl
theorem IntsM.zeros (w : World) {lo b n : Nat} (hb : b = w.heap.size) (hlo : lo ≤ w.heap.size) (hn : n ≤ 1000000) : IntsM lo (w.alloc (.cells (madeCells #[.int .i64 0] n) 3)) (.slice (some ⟨b, 0, none⟩) n n) (List.replicate n 0) := by
  subst hb
  have h := World.alloc_heap_new w (.cells (madeCells #[.int .i64 0] n) 3)
  have hsz : (madeCells #[Value.int .i64 0] n).size = n := by simp [madeCells]
  refine ⟨by simp, .inr ⟨w.heap.size, n, _, by rw [List.length_replicate], hlo, h, by simp, by simp only [maxLen]; omega, by rw [hsz]; simp, ?_⟩⟩
  apply List.ext_getElem?
  intro i
  by_cases hi : i < n
  · simp [madeCells, hi, Nat.mod_one]
  · simp [madeCells, hi, Nat.mod_one]
theorem run_make_ints (n : Nat) (hn : n ≤ 1000000) (w : World) : (Instr.makeSlice 22 (.int .i64 (n : Int)) (.int .i64 (n : Int))).run Try.prog w = .ok (.slice (some ⟨w.heap.size, 0, none⟩) n n) (w.alloc (.cells (madeCells #[.int .i64 0] n) 3)) :=
  run_make_row' _ _ _ 8 Try.underlying22 (by kernel_rfl) rfl _ _ _ (by omega) (by omega) w
/-- a world behind u, in which only a block of one's own has changed -/
theorem IntsM.stepB {u w' : World} (y : Later u) {L : Nat} {v : Value} {xs : List Int} (hL : u.heap.size = L) (h : IntsM L y.w v xs) (hg : y.w.grownBy w' v.ownBlock) : ∃ q : Later u, w' = q.w := by
  subst hL
  exact ⟨⟨w', y.le.trans (h.below hg y.size)⟩, rfl⟩
theorem IntsM.one (w : World) {lo b : Nat} (y : Int) (hb : b = w.heap.size) (hlo : lo ≤ w.heap.size) : IntsM lo (w.alloc (.cells #[.int .i64 y] 3)) (.slice (some ⟨b, 0, none⟩) 1 1) [y] := by
  subst hb
  exact ⟨rfl, .inr ⟨w.heap.size, 1, _, rfl, hlo, World.alloc_heap_new w _, Nat.le_refl _, by simp [maxLen], rfl, rfl⟩⟩
/-- a byte of a text -/
theorem run_byte (l : List UInt8) {k : Nat} (hk : k < l.length) (w : World) : (Instr.index 9 (.string ⟨l.toArray⟩) (.int .i64 (k : Int))).run Try.prog w = .ok (.int .u8 ((bt l k).toNat : Nat)) w := by
  rw [run_index_string (h := Try.underlying9), dif_pos ⟨by omega, by rw [str_size]; omega⟩, bt_eq hk]
  rfl
def midL (n : Nat) (f : Nat → Int) (k : Nat) : List Int := (List.range n).map fun i => if i < k then f i else 0
theorem midL_zero (n : Nat) (f : Nat → Int) : midL n f 0 = List.replicate n 0 := by
  refine List.ext_getElem (by simp [midL]) fun i h1 h2 => by simp [midL]
theorem midL_set (n : Nat) (f : Nat → Int) {k : Nat} (_ : k < n) : (midL n f k).set k (f k) = midL n f (k + 1) := by
  refine List.ext_getElem (by simp [midL]) fun i h1 h2 => ?_
  rw [List.getElem_set]
  simp only [midL, List.getElem_map, List.getElem_range]
  by_cases h : k = i
  · rw [if_pos h, ← h, if_pos (by omega)]
  · rw [if_neg h]
    by_cases h3 : i < k
    · rw [if_pos h3, if_pos (by omega)]
    · rw [if_neg h3, if_neg (by omega)]
theorem midL_all (n : Nat) (f : Nat → Int) : midL n f n = (List.range n).map f := by
  refine List.map_congr_left fun i hi => if_pos (List.mem_range.1 hi)
theorem midL_len (n : Nat) (f : Nat → Int) (k : Nat) : (midL n f k).length = n := by simp [midL]
theorem midL_nth (n : Nat) (f : Nat → Int) {k : Nat} : ∃ v, nth (midL n f k) k = v := ⟨_, rfl⟩
namespace Lcs
theorem lc_le (a b : List UInt8) : ∀ i j, lc a b i j ≤ i ∧ lc a b i j ≤ j
  | 0, j => by rw [zero_lc]; omega
  | i + 1, 0 => by rw [lc_zero]; omega
  | i + 1, j + 1 => by
    have h1 := lc_le a b i j
    have h2 := lc_le a b (i + 1) j
    have h3 := lc_le a b i (j + 1)
    rw [lc]; split
    · omega
    · simp only [Nat.max_def]; split <;> omega
/-- the fewest marks of the first i letters whose marked text is the first j letters -/
def ed (a b : List UInt8) (i j : Nat) : Nat := i + j - 2 * lc a b i j
theorem ed_zero (a b : List UInt8) (j : Nat) : ed a b 0 j = j := by rw [ed, zero_lc]; omega
theorem ed_nil (a b : List UInt8) (i : Nat) : ed a b i 0 = i := by rw [ed, lc_zero]; omega
theorem ed_ne {a b : List UInt8} {i j : Nat} (h : ¬ ch a i = ch b j) : ed a b (i + 1) (j + 1) = min (ed a b (i + 1) j) (ed a b i (j + 1)) + 1 := by
  have h2 := lc_le a b (i + 1) j
  have h3 := lc_le a b i (j + 1)
  have e : lc a b (i + 1) (j + 1) = max (lc a b (i + 1) j) (lc a b i (j + 1)) := by rw [lc, if_neg h]
  rw [ed, ed, ed, e]
  simp only [Nat.max_def, Nat.min_def]
  split <;> split <;> omega
theorem ed_eq {a b : List UInt8} {i j : Nat} (h : ch a i = ch b j) : ed a b (i + 1) (j + 1) = min (min (ed a b (i + 1) j) (ed a b i (j + 1)) + 1) (ed a b i j) := by
  have h1 := lc_le a b i j
  have h2 := lc_le a b (i + 1) j
  have h3 := lc_le a b i (j + 1)
  have h4 := lc_step a b i j
  have e : lc a b (i + 1) (j + 1) = lc a b i j + 1 := by rw [lc, if_pos h]
  rw [ed, ed, ed, ed, e]
  simp only [Nat.min_def]
  split <;> split <;> omega
theorem ed_few (a b : List UInt8) : ed a b a.length b.length = few a b := rfl
theorem ed_le (a b : List UInt8) (i j : Nat) : ed a b i j ≤ i + j := by rw [ed]; omega
end Lcs
open Lcs in
def edL (a b : List UInt8) (i m : Nat) : List Int := (List.range m).map fun j => ((ed a b i j : Nat) : Int)
theorem edL_len (a b : List UInt8) (i m : Nat) : (edL a b i m).length = m := by simp [edL]
theorem edL_nth (a b : List UInt8) (i : Nat) {m j : Nat} (h : j < m) : nth (edL a b i m) j = (Lcs.ed a b i j : Nat) := by simp [nth, edL, h]
theorem edL_succ (a b : List UInt8) (i m : Nat) : edL a b i (m + 1) = edL a b i m ++ [((Lcs.ed a b i m : Nat) : Int)] := by rw [edL, List.range_succ, List.map_append]; rfl
theorem edL_zero (a b : List UInt8) (m : Nat) : edL a b 0 m = (List.range m).map fun (j : Nat) => (j : Int) := List.map_congr_left fun j _ => by rw [Lcs.ed_zero]
theorem edL_one (a b : List UInt8) (i : Nat) : edL a b i 1 = [(i : Int)] := by simp [edL, Lcs.ed_nil]
end Go.Proofs.Ytpkgfkeekcgkcaa

/-  Lists of pairs that a call makes by append. -/
namespace Go.Proofs.Ytpkgfkeekcgkcaa
open Go.RowKit Go.Shelf
def flatP (ps : List (Int × Int)) : List Value := ps.flatMap fun m => [.int .i64 m.1, .int .i64 m.2]
theorem flatP_len (ps : List (Int × Int)) : (flatP ps).length = ps.length * 2 := by
  induction ps with
  | nil => rfl
  | cons m ps ih => rw [flatP, List.flatMap_cons, List.length_append, ← flatP, ih]; simp; omega
theorem flatP_app (ps qs : List (Int × Int)) : flatP (ps ++ qs) = flatP ps ++ flatP qs := by simp [flatP]
theorem flatP_get : ∀ (ps : List (Int × Int)) (k : Nat), k < ps.length → (flatP ps)[k * 2]? = some (.int .i64 (pr ps k).1) ∧ (flatP ps)[k * 2 + 1]? = some (.int .i64 (pr ps k).2)
  | [], k, h => absurd h (by simp)
  | m :: ps, 0, _ => by simp [flatP, pr]
  | m :: ps, k + 1, h => by
    have ih := flatP_get ps k (by simpa using h)
    have e : flatP (m :: ps) = [Value.int .i64 m.1, .int .i64 m.2] ++ flatP ps := rfl
    rw [e, show (k + 1) * 2 = k * 2 + 2 by omega, show k * 2 + 2 + 1 = (k * 2 + 1) + 2 by omega, List.getElem?_append_right (by simp), List.getElem?_append_right (by simp)]
    exact ih
theorem flatP_at {ps : List (Int × Int)} {j : Nat} {u : Value} (h : (flatP ps)[j]? = some u) : ∃ k, k < ps.length ∧ ((j = k * 2 ∧ u = .int .i64 (pr ps k).1) ∨ (j = k * 2 + 1 ∧ u = .int .i64 (pr ps k).2)) := by
  have hj := (List.getElem?_eq_some_iff.1 h).1
  rw [flatP_len] at hj
  have hk : j / 2 < ps.length := by omega
  obtain ⟨h1, h2⟩ := flatP_get ps (j / 2) hk
  rcases Nat.mod_two_eq_zero_or_one j with e | e
  · rw [show j / 2 * 2 = j by omega, h] at h1
    exact ⟨_, hk, .inl ⟨by omega, Option.some.inj h1⟩⟩
  · rw [show j / 2 * 2 + 1 = j by omega, h] at h2
    exact ⟨_, hk, .inr ⟨by omega, Option.some.inj h2⟩⟩
theorem flatP_one (ps : List (Int × Int)) : ∀ u ∈ flatP ps, u.oneCell' = true := fun u hu => by
  obtain ⟨j, hj, e⟩ := List.mem_iff_getElem.1 hu
  obtain ⟨k, _, (⟨_, rfl⟩ | ⟨_, rfl⟩)⟩ := flatP_at (List.getElem?_eq_some_iff.2 ⟨hj, e⟩) <;> rfl
theorem info_pair : ∃ i : TypeInfo, Try.prog.info? 78 = some i ∧ i.zero = some (.agg #[.int .i64 0, .int .i64 0]) ∧ i.size = 2 ∧ i.bytes = 16 := by
  have h : (Try.prog.info? 78).map (fun i => (i.zero, i.size, i.bytes)) = some (some (.agg #[.int .i64 0, .int .i64 0]), 2, 16) := by kernel_rfl
  obtain ⟨i, hi, hz⟩ := Option.map_eq_some_iff.1 h
  simp only [Prod.mk.injEq] at hz
  exact ⟨i, hi, hz.1, hz.2.1, hz.2.2⟩
/-- a slice of pairs of one's own -/
def PrsM (lo : Nat) (w : World) (v : Value) (ps : List (Int × Int)) : Prop := w.ownsRow lo 78 2 v ps.length (flatP ps)
theorem PrsM.nil (lo : Nat) (w : World) : PrsM lo w (.slice none 0 0) [] := World.ownsRow_nil _ _ _ _
theorem PrsM.form {lo : Nat} {w : World} {v : Value} {ps : List (Int × Int)} (h : PrsM lo w v ps) : ∃ a c, v = .slice a ps.length c := by
  obtain ⟨_, ⟨rfl, h0⟩ | ⟨g, cap, cur, rfl, _⟩⟩ := h
  · rw [h0]; exact ⟨_, _, rfl⟩
  · exact ⟨_, _, rfl⟩
theorem PrsM.form' {lo : Nat} {w : World} {v : Value} {ps : List (Int × Int)} (h : PrsM lo w v ps) : ∃ a n c, v = .slice a n c := by
  obtain ⟨a, c, e⟩ := h.form; exact ⟨a, _, c, e⟩
theorem PrsM.cap {lo : Nat} {w : World} {a : Option Addr} {n c : Nat} {ps : List (Int × Int)} (h : PrsM lo w (.slice a n c) ps) : ps.length ≤ c := by
  obtain ⟨_, ⟨e, h0⟩ | ⟨g, cap, cur, e, _, _, hn, _⟩⟩ := h
  · rw [h0]; exact Nat.zero_le _
  · cases e; exact hn
theorem PrsM.prs {lo : Nat} {w : World} {v : Value} {ps : List (Int × Int)} (h : PrsM lo w v ps) (hl : ps.length ≤ 9007199254740992) : Prs w v ps := by
  obtain ⟨h1, ⟨rfl, h0⟩ | ⟨g, cap, cur, rfl, _, hg, hnc, hcm, hcs, htk⟩⟩ := h
  · have : ps = [] := List.eq_nil_of_length_eq_zero h0
    subst this
    exact Prs.nil none 0
  · refine ⟨hl, .inr ⟨g, 0, cap, rfl, hnc, (Array.getElem?_eq_some_iff.1 hg).1, fun k hk => ?_⟩⟩
    have key : ∀ j u, (flatP ps)[j]? = some u → j < ps.length * 2 → w.cell? ⟨g, 0 + j, none⟩ = some u := fun j u hj hlt => by
      rw [← htk, List.getElem?_take, if_pos hlt] at hj
      simp only [World.cell?, hg, Nat.zero_add]
      simpa using hj
    obtain ⟨h2, h3⟩ := flatP_get ps k hk
    exact ⟨key _ _ h2 (by omega), by rw [Nat.add_assoc]; exact key _ _ h3 (by omega)⟩
theorem PrsM.kept {lo : Nat} {w w' : World} {v : Value} {ps : List (Int × Int)} (h : PrsM lo w v ps) {r : Option Nat} (hg : w.grownBy w' r) (hne : v.ownBlock = none ∨ v.ownBlock ≠ r) : PrsM lo w' v ps := World.ownsRow.kept h hg hne
theorem PrsM.later {lo : Nat} {w : World} {v : Value} {ps : List (Int × Int)} (h : PrsM lo w v ps) (x : Later w) : PrsM lo x.w v ps :=
  h.kept (r := none) x.grown (by cases hv : v.ownBlock <;> simp)
theorem PrsM.mono {lo lo' : Nat} {w : World} {v : Value} {ps : List (Int × Int)} (h : PrsM lo w v ps) (hl : lo' ≤ lo) : PrsM lo' w v ps := by
  obtain ⟨h1, h2⟩ := h
  refine ⟨h1, h2.imp id ?_⟩
  rintro ⟨g, cap, cur, hv, hg, r⟩
  exact ⟨g, cap, cur, hv, by omega, r⟩
theorem PrsM.below {lo : Nat} {w w' : World} {v : Value} {ps : List (Int × Int)} (h : PrsM lo w v ps) (hg : w.grownBy w' v.ownBlock) (hlo : lo ≤ w.heap.size) : Below lo w w' :=
  (Below.refl lo w).grown hg hlo fun k hk => (World.ownsRow.lt h k hk).1
theorem PrsM.empty (w : World) {lo b : Nat} (hb : b = w.heap.size) (hlo : lo ≤ w.heap.size) : PrsM lo (w.alloc (.cells #[] 78)) (.slice (some ⟨b, 0, none⟩) 0 0) [] := by
  subst hb; exact World.ownsRow_made w #[] 0 hlo (by simp [maxLen]) rfl
theorem PrsM.lit (w : World) {lo b : Nat} (ps : List (Int × Int)) {arr : Array Value} {n : Nat} (hb : b = w.heap.size) (hlo : lo ≤ w.heap.size) (hn : n = ps.length) (ha : arr = (flatP ps).toArray) (hl : ps.length ≤ 1000) : PrsM lo (w.alloc (.cells arr 78)) (.slice (some ⟨b, 0, none⟩) n n) ps := by
  subst hb hn ha
  refine ⟨flatP_len ps, .inr ⟨w.heap.size, ps.length, _, rfl, hlo, World.alloc_heap_new _ _, Nat.le_refl _, by simp only [maxLen]; omega, by simp [flatP_len], ?_⟩⟩
  rw [List.take_of_length_le (by simp [flatP_len])]
theorem src_prs {w : World} {x : Value} {ys : List (Int × Int)} (hx : Prs w x ys) (i : TypeInfo) (hsz : i.size = 2) : Src Try.prog i.size 44 x ys.length (flatP ys) w := by
  obtain ⟨_, ⟨rfl, a, cap, rfl⟩ | ⟨b, off, cap, rfl, hcp, hlt, hc⟩⟩ := hx
  · cases a with
    | none => exact Src.ofNil w (e' := 78) Try.underlying44 cap
    | some ad => exact Src.ofSlice w (e' := 78) Try.underlying44 ad 0 cap [] (by simp) (by simp) (by simp)
  · refine Src.ofSlice w (e' := 78) Try.underlying44 ⟨b, off, none⟩ ys.length cap (flatP ys) (by rw [hsz, flatP_len]) (fun j u hj => ?_) (flatP_one ys)
    obtain ⟨k, hk, (⟨rfl, rfl⟩ | ⟨rfl, rfl⟩)⟩ := flatP_at hj
    · rw [Addr.add_lit]; exact (hc k hk).1
    · rw [Addr.add_lit, show off + (k * 2 + 1) = off + k * 2 + 1 by omega]; exact (hc k hk).2
/-- append(v, x...) -/
theorem run_app_prs (w : World) (lo : Nat) (v x : Value) (ps qs : List (Int × Int)) (hv : PrsM lo w v ps) (hx : Prs w x qs) (hlo : lo ≤ w.heap.size) (hbig : ps.length + qs.length ≤ 1000000000000) (ty : TypeId) :
    ∃ v' w', (Builtin.append_ #[44, 44] ty #[v, x]).run Try.prog w = .ok v' w' ∧ PrsM lo w' v' (ps ++ qs) ∧ w.grownBy w' v.ownBlock := by
  obtain ⟨i, hi, hz, hsz, hby⟩ := info_pair
  have hs := src_prs hx i hsz
  by_cases hy : qs = []
  · subst hy
    obtain ⟨a, c, rfl⟩ := hv.form
    refine ⟨_, w, run_append_nothing w _ _ ty _ i Try.underlying44 hi a ps.length c hv.cap _ hs, ?_, ⟨rfl, rfl, rfl, Nat.le_refl _, fun _ _ _ => rfl⟩⟩
    rw [List.append_nil]; exact hv
  · obtain ⟨b, off, cap, rfl, hcp, hlt, hc⟩ := hx.at (k := 0) (by cases qs with | nil => exact absurd rfl hy | cons _ _ => simp)
    obtain ⟨v', w', hrun, hown2, hg2, _⟩ := run_append_own w lo 44 ty 78 i (.agg #[.int .i64 0, .int .i64 0]) 2 16 Try.underlying44 hi hz hsz hby rfl (by decide) v ps.length _ hv ⟨b, off, none⟩ qs.length cap
      (flatP qs) (flatP_len qs) (by
        intro j u hj
        obtain ⟨k, hk, (⟨rfl, rfl⟩ | ⟨rfl, rfl⟩)⟩ := flatP_at hj
        · rw [Addr.add_lit]; exact (hc k hk).1
        · rw [Addr.add_lit, show off + (k * 2 + 1) = off + k * 2 + 1 by omega]; exact (hc k hk).2) (flatP_one qs) (by simp only [maxLen]; omega) (by omega) hlo
    refine ⟨v', w', hrun, ?_, hg2⟩
    rw [← flatP_app, ← List.length_append] at hown2
    exact hown2
theorem app_prs_step {W wr : World} (hB : Below W.heap.size W wr) {v x : Value} {ps qs : List (Int × Int)} (hA : PrsM W.heap.size wr v ps) (hx : Prs wr x qs) (hbig : ps.length + qs.length ≤ 1000000000000) (ty : TypeId) :
    ∃ v', ∃ q : Later W, (Builtin.append_ #[44, 44] ty #[v, x]).run Try.prog wr = .ok v' q.w ∧ PrsM W.heap.size q.w v' (ps ++ qs) ∧ wr.grownBy q.w v.ownBlock := by
  obtain ⟨v', w', h1, h2, h3⟩ := run_app_prs wr W.heap.size v x ps qs hA hx hB.size hbig ty
  exact ⟨v', ⟨w', hB.trans (hA.below h3 hB.size)⟩, h1, h2, h3⟩
theorem app_pair_step {W wr : World} (hB : Below W.heap.size W wr) {v : Value} {ps : List (Int × Int)} (hA : PrsM W.heap.size wr v ps) (a b : Int) (hbig : ps.length + 1 ≤ 1000000000000) (ty : TypeId) :
    ∃ v', ∃ q : Later W, (Builtin.append_ #[44, 44] ty #[v, .slice (some ⟨wr.heap.size, 0, none⟩) 1 1]).run Try.prog (wr.alloc (.cells #[.int .i64 a, .int .i64 b] 78)) = .ok v' q.w ∧ PrsM W.heap.size q.w v' (ps ++ [(a, b)]) ∧ wr.grownBy q.w v.ownBlock := by
  have hA' := hA.later (Later.new wr (.cells #[.int .i64 a, .int .i64 b] 78))
  rw [Later.new_w] at hA'
  have hx := (PrsM.lit wr (lo := wr.heap.size) [(a, b)] (arr := #[.int .i64 a, .int .i64 b]) (n := 1) rfl (Nat.le_refl _) rfl rfl (by simp)).prs (by simp)
  obtain ⟨v', w', h1, h2, h3⟩ := run_app_prs _ W.heap.size v _ ps [(a, b)] hA' hx (by have := hB.size; simp; omega) (by simpa using hbig) ty
  have hb := hA'.below h3 (by have := hB.size; simp; omega)
  exact ⟨v', ⟨w', ((hB.alloc hB.size _).trans hb)⟩, h1, h2, ⟨h3.os, h3.tape, h3.output, Nat.le_trans (by simp) h3.size, fun k hk hne => (h3.block k (by simp; omega) hne).trans (Below.heap_alloc _ _ k hk)⟩⟩
theorem app_pair_at {U : World} {lo : Nat} {v : Value} {ps : List (Int × Int)} (hv : PrsM lo U v ps) (b c : Nat) (p q : Int) (h0 : U.cell? ⟨b, 0, none⟩ = some (.int .i64 p)) (h1 : U.cell? ⟨b, 1, none⟩ = some (.int .i64 q)) (hlo : lo ≤ U.heap.size) (hbig : ps.length + 1 ≤ 1000000000000) (ty : TypeId) :
    ∃ v' w', (Builtin.append_ #[44, 44] ty #[v, .slice (some ⟨b, 0, none⟩) 1 c]).run Try.prog U = .ok v' w' ∧ PrsM lo w' v' (ps ++ [(p, q)]) ∧ U.grownBy w' v.ownBlock ∧ (v'.ownBlock = v.ownBlock ∨ v'.ownBlock = some U.heap.size) := by
  obtain ⟨i, hi, hz, hsz, hby⟩ := info_pair
  obtain ⟨v', w', hrun, hown2, hg2, _, h5⟩ := run_append_own_at (P := Try.prog) U lo 44 ty 78 i (.agg #[.int .i64 0, .int .i64 0]) 2 16 Try.underlying44 hi hz hsz hby rfl (by decide) v ps.length _ hv ⟨b, 0, none⟩ 1 c
    (flatP [(p, q)]) (flatP_len _) (by
      intro j u hj
      obtain ⟨k, hk, (⟨rfl, rfl⟩ | ⟨rfl, rfl⟩)⟩ := flatP_at hj
      · obtain rfl : k = 0 := by simpa using hk
        rw [Addr.add_lit]; exact h0
      · obtain rfl : k = 0 := by simpa using hk
        rw [Addr.add_lit]; exact h1) (flatP_one _) (by simp only [maxLen]; omega) (by omega) hlo
  refine ⟨v', w', hrun, ?_, hg2, h5⟩
  rw [← flatP_app] at hown2
  unfold PrsM
  rw [List.length_append]
  exact hown2
theorem PrsM.of_block {w : World} {lo E : Nat} (hlo : lo ≤ E) (h : w.heap[E]? = some (.cells #[] 78)) : PrsM lo w (.slice (some ⟨E, 0, none⟩) 0 0) [] :=
  ⟨rfl, .inr ⟨E, 0, #[], rfl, hlo, h, Nat.le_refl _, by simp [maxLen], rfl, rfl⟩⟩
/-- append([][2]int{}, x...) changes nothing that was there -/
theorem app_prs_empty {u : World} {lo E : Nat} (hE : PrsM lo u (.slice (some ⟨E, 0, none⟩) 0 0) []) {x : Value} {ys : List (Int × Int)} (hx : Prs u x ys) (hlo : lo ≤ u.heap.size) (hbig : ys.length ≤ 1000000000000) (ty : TypeId) :
    ∃ a n c, ∃ q : Later u, (Builtin.append_ #[44, 44] ty #[.slice (some ⟨E, 0, none⟩) 0 0, x]).run Try.prog u = .ok (.slice a n c) q.w ∧ PrsM lo q.w (.slice a n c) ys := by
  obtain ⟨v', w', h1, h2, h3⟩ := run_app_prs u lo _ x [] ys hE hx hlo (by simpa using hbig) ty
  rw [List.nil_append] at h2
  obtain ⟨a, n, c, rfl⟩ := h2.form'
  obtain ⟨i, hi, hz, hsz, hby⟩ := info_pair
  by_cases hy : ys = []
  · have hs := src_prs hx i hsz
    have h4 := run_append_nothing u _ _ ty _ i Try.underlying44 hi (some ⟨E, 0, none⟩) 0 0 (Nat.le_refl _) x (hy ▸ hs)
    obtain ⟨_, rfl⟩ := ok_inj (h4.symm.trans h1)
    exact ⟨a, n, c, Later.self _, h1, h2⟩
  · obtain ⟨b, off, cap, rfl, hcp, hlt, hc⟩ := hx.at (k := 0) (by cases ys with | nil => exact absurd rfl hy | cons _ _ => simp)
    have hl : 0 < ys.length := by cases ys with | nil => exact absurd rfl hy | cons _ _ => simp
    have h4 := run_append_grow (P := Try.prog) u 44 ty 78 i (.agg #[.int .i64 0, .int .i64 0]) Try.underlying44 hi hz ⟨E, 0, none⟩ 0 0 [] (by simp) (by simp) ⟨b, off, none⟩ ys.length cap
      (flatP ys) (by rw [hsz, flatP_len]) (by
        intro j u hj
        obtain ⟨k, hk, (⟨rfl, rfl⟩ | ⟨rfl, rfl⟩)⟩ := flatP_at hj
        · rw [Addr.add_lit]; exact (hc k hk).1
        · rw [Addr.add_lit, show off + (k * 2 + 1) = off + k * 2 + 1 by omega]; exact (hc k hk).2) (by omega) (by omega) (growslice_fits (by omega) (by rw [hby]; omega))
    obtain ⟨_, e⟩ := ok_inj (h4.symm.trans h1)
    subst e
    exact ⟨a, n, c, (Later.draw u).step (Later.new _ _), h1, h2⟩
end Go.Proofs.Ytpkgfkeekcgkcaa
