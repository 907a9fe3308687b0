import Derived.Test.YtdhdpbnlhnodjaaKRefA
import Derived.Test.YtdhdpbnlhnodjaaKRefG
/-  Right settings, name by name, as the definition of Most makes them. -/
namespace Go.Proofs.Ytdhdpbnlhnodjaa
namespace Sat
variable {L : Lay}

def cands (i : Nat) (ps : List Nat) : List (List Nat) := [ps, ps ++ [2 * i], ps ++ [2 * i + 1]]
def triO (L : Lay) : Nat → List (List Nat)
  | 0 => [[]]
  | i + 1 => (triO L i).flatMap fun ps => (cands i ps).filter (okF L [])
theorem okF_pre {ps : List Nat} {p : Nat} (h : okF L [] (ps ++ [p]) = true) : okF L [] ps = true := by
  rw [okF_iff] at h ⊢
  exact ⟨fun q hq => h.1 q (by simp [hq]), fun q _ u hu => absurd hu (by simp), (List.pairwise_append.1 h.2.2).1⟩
theorem mem_triO : ∀ {i : Nat} {ps : List Nat}, ps ∈ triO L i ↔ ps ∈ triF (List.range i) ∧ okF L [] ps = true
  | 0, ps => by
    rw [triO, List.range_zero, triF]
    constructor
    · intro h
      have : ps = [] := by simpa using h
      subst this
      exact ⟨by simp, rfl⟩
    · exact fun h => h.1
  | i + 1, ps => by
    rw [triO, List.mem_flatMap, List.range_succ, triF_snoc]
    constructor
    · rintro ⟨qs, hq, hp⟩
      obtain ⟨h1, h2⟩ := mem_triO.1 hq
      obtain ⟨h3, h4⟩ := List.mem_filter.1 hp
      refine ⟨⟨qs, h1, ?_⟩, h4⟩
      simpa [cands] using h3
    · rintro ⟨⟨qs, h1, h2⟩, h3⟩
      refine ⟨qs, mem_triO.2 ⟨h1, ?_⟩, List.mem_filter.2 ⟨by simpa [cands] using h2, h3⟩⟩
      rcases h2 with rfl | rfl | rfl
      · exact h3
      · exact okF_pre h3
      · exact okF_pre h3
theorem triO_len : ∀ i, (triO L i).length ≤ 3 ^ i
  | 0 => Nat.le_refl _
  | i + 1 => by
    have ih := triO_len i
    rw [triO, List.length_flatMap]
    have h : ∀ l : List (List Nat), (l.map fun ps => ((cands i ps).filter (okF L [])).length).sum ≤ l.length * 3 := by
      intro l
      induction l with
      | nil => simp
      | cons a l ih =>
        rw [List.map_cons, List.sum_cons, List.length_cons]
        have := List.length_filter_le (okF L []) (cands i a)
        have h3 : (cands i a).length = 3 := rfl
        omega
    have := h (triO L i)
    rw [Nat.pow_succ]
    omega
theorem tri_lt : ∀ {k : Nat} {ps : List Nat}, ps ∈ triF (List.range k) → (∀ p ∈ ps, p / 2 < k) ∧ One ps
  | 0, ps, h => by
    have : ps = [] := by simpa [triF] using h
    subst this
    exact ⟨fun p hp => absurd hp (by simp), fun p hp => absurd hp (by simp)⟩
  | k + 1, ps, h => by
    rw [List.range_succ, triF_snoc] at h
    obtain ⟨qs, hq, h⟩ := h
    obtain ⟨h1, h2⟩ := tri_lt hq
    have key : ∀ c, c ≤ 1 → (∀ p ∈ qs ++ [2 * k + c], p / 2 < k + 1) ∧ One (qs ++ [2 * k + c]) := fun c hc => by
      refine ⟨fun p hp => ?_, fun p hp hm => ?_⟩
      · rcases List.mem_append.1 hp with h | h
        · have := h1 p h; omega
        · have : p = 2 * k + c := by simpa using h
          omega
      · rcases List.mem_append.1 hp with h | h <;> rcases List.mem_append.1 hm with h' | h'
        · exact h2 p h h'
        · have e : mate p = 2 * k + c := by simpa using h'
          have := h1 p h
          have := mate_div p
          omega
        · have e : p = 2 * k + c := by simpa using h
          have := h1 _ h'
          have := mate_div p
          omega
        · have e : p = 2 * k + c := by simpa using h
          have e' : mate p = 2 * k + c := by simpa using h'
          exact mate_ne p (by omega)
    rcases h with rfl | rfl | rfl
    · exact ⟨fun p hp => by have := h1 p hp; omega, h2⟩
    · exact key 0 (by omega)
    · exact key 1 (by omega)
theorem no_place {k : Nat} {ps : List Nat} (h : ps ∈ triF (List.range k)) {p : Nat} (hp : p / 2 = k) : p ∉ ps := fun hm => by
  have := (tri_lt h).1 p hm; omega
def bestF (l : List (List Nat)) : Nat := l.foldl (fun b ps => max b ps.length) 0
theorem bestF_snoc (l : List (List Nat)) (ps : List Nat) : bestF (l ++ [ps]) = max (bestF l) ps.length := by simp [bestF]
theorem foldl_max (l : List (List Nat)) : ∀ b, b ≤ l.foldl (fun b ps => max b ps.length) b ∧ (∀ ps ∈ l, ps.length ≤ l.foldl (fun b ps => max b ps.length) b) ∧ (l.foldl (fun b ps => max b ps.length) b = b ∨ ∃ ps ∈ l, ps.length = l.foldl (fun b ps => max b ps.length) b) := by
  induction l with
  | nil => intro b; simp
  | cons a l ih =>
    intro b
    obtain ⟨h1, h2, h3⟩ := ih (max b a.length)
    rw [List.foldl_cons]
    refine ⟨by omega, fun ps hp => ?_, ?_⟩
    · rcases List.mem_cons.1 hp with rfl | hp
      · omega
      · exact h2 ps hp
    · rcases h3 with h3 | ⟨ps, h4, h5⟩
      · by_cases h : b ≤ a.length
        · exact .inr ⟨a, by simp, by rw [h3]; omega⟩
        · exact .inl (by rw [h3]; omega)
      · exact .inr ⟨ps, by simp [h4], h5⟩
theorem bestF_most (n : Nat) : bestF (triO L n) = mostF L (List.range n) [] := by
  obtain ⟨_, h2, h3⟩ := foldl_max (triO L n) 0
  refine IsMost.unique (L := L) (n := n) ⟨?_, fun ps h ho => h2 ps (mem_triO.2 ⟨h, ho⟩)⟩ (mostF_is L n)
  rcases h3 with h3 | ⟨ps, h4, h5⟩
  · obtain ⟨ps, hp, ho, hl⟩ := mostF_ex L (List.range n) []
    have := h2 ps (mem_triO.2 ⟨hp, ho⟩)
    rw [h3] at this
    exact ⟨ps, hp, ho, by show ps.length = (triO L n).foldl _ 0; rw [h3]; omega⟩
  · obtain ⟨h6, h7⟩ := mem_triO.1 h4
    exact ⟨ps, h6, h7, h5⟩
end Sat
open Sat
theorem cntS_set {st : List Int} {i : Nat} {v : Int} (hi : i < st.length) (h1 : nth st i = -1) (hv : 0 ≤ v) : cntS (st.set i v) = cntS st + 1 := by
  have h2 : st[i] = -1 := by rw [← nth_eq hi]; exact h1
  rw [List.set_eq_take_append_cons_drop, if_pos hi]
  conv => { rhs; rw [← List.take_append_drop i st, List.drop_eq_getElem_cons hi] }
  unfold cntS
  rw [List.filter_append, List.filter_append, List.filter_cons_of_pos (by simpa using hv), List.filter_cons_of_neg (by rw [h2]; decide)]
  simp; omega
theorem cntS_tri {n : Nat} : ∀ {k : Nat} {ps : List Nat}, k ≤ n → ps ∈ triF (List.range k) → cntS (setL n ps) = ps.length
  | 0, ps, _, h => by
    have : ps = [] := by simpa [triF] using h
    subst this
    rw [Sat.setL_nil, cntS, List.filter_eq_nil_iff.2 fun x hx => by rw [List.eq_of_mem_replicate hx]; decide]; rfl
  | k + 1, ps, hk, h => by
    rw [List.range_succ, triF_snoc] at h
    obtain ⟨qs, hq, h⟩ := h
    have ih := cntS_tri (n := n) (by omega) hq
    have key : ∀ c, c ≤ 1 → cntS (setL n (qs ++ [2 * k + c])) = (qs ++ [2 * k + c]).length := fun c hc => by
      have e1 : (2 * k + c) / 2 = k := by omega
      rw [← setL_add (p := 2 * k + c) (by omega) (no_place hq e1) (no_place hq (by rw [mate_div]; exact e1)), e1, cntS_set (by rw [setL_len]; omega) ?_ (by omega), ih]
      · simp
      · show at0 _ _ = _
        rw [at0_setL _ (by omega), if_neg (no_place hq (by omega)), if_neg (no_place hq (by omega))]
    rcases h with rfl | rfl | rfl
    · exact ih
    · exact key 0 (by omega)
    · exact key 1 (by omega)
/-- the settings of a round of Most's definition, so far: k of the elder ones are done, s sides of the next one -/
def rndF (L : Lay) (i k s : Nat) : List (List Nat) := (((triO L i).take k).flatMap fun ps => (cands i ps).filter (okF L [])) ++ ((cands i ((triO L i).getD k [])).take s).filter (okF L [])
theorem rndF_zero (L : Lay) (i : Nat) : rndF L i 0 0 = [] := by simp [rndF]
theorem rndF_all (L : Lay) (i : Nat) : rndF L i (triO L i).length 0 = triO L (i + 1) := by rw [rndF, List.take_length, triO]; simp
theorem rndF_next (L : Lay) (i : Nat) {k : Nat} (hk : k < (triO L i).length) : rndF L i k 3 = rndF L i (k + 1) 0 := by
  rw [rndF, rndF, List.take_succ_eq_append_getElem hk, List.flatMap_append]
  simp [cands, hk]
theorem rndF_side (L : Lay) (i k : Nat) {s : Nat} (hs : s < 3) : rndF L i k (s + 1) = rndF L i k s ++ if okF L [] ((cands i ((triO L i).getD k [])).getD s []) = true then [(cands i ((triO L i).getD k [])).getD s []] else [] := by
  have hl : (cands i ((triO L i).getD k [])).length = 3 := rfl
  have hs' : s < (cands i ((triO L i).getD k [])).length := by rw [hl]; exact hs
  rw [rndF, rndF, List.take_succ_eq_append_getElem hs', List.filter_append, List.append_assoc]
  congr 2
  rw [show (cands i ((triO L i).getD k [])).getD s [] = (cands i ((triO L i).getD k []))[s] from by generalize cands i ((triO L i).getD k []) = l at hs' ⊢; simp [hs']]
  cases h : okF L [] (cands i ((triO L i).getD k []))[s]
  · rw [List.filter_cons_of_neg (by rw [h]; simp)]; rfl
  · rw [List.filter_cons_of_pos (by rw [h])]; rfl
theorem rndF_len (L : Lay) (i k s : Nat) : (rndF L i k s).length ≤ (triO L i).length * 3 + 3 := by
  rw [rndF, List.length_append]
  have h1 := List.length_filter_le (okF L []) ((cands i ((triO L i).getD k [])).take s)
  have h2 : ((cands i ((triO L i).getD k [])).take s).length ≤ 3 := by rw [List.length_take]; exact Nat.min_le_right _ _
  have h : ∀ l : List (List Nat), (l.flatMap fun ps => (cands i ps).filter (okF L [])).length ≤ l.length * 3 := by
    intro l
    induction l with
    | nil => simp
    | cons a l ih =>
      rw [List.flatMap_cons, List.length_append, List.length_cons]
      have := List.length_filter_le (okF L []) (cands i a)
      have h3 : (cands i a).length = 3 := rfl
      omega
  have h3 := h ((triO L i).take k)
  have h4 : ((triO L i).take k).length ≤ (triO L i).length := by rw [List.length_take]; exact Nat.min_le_right _ _
  omega
theorem cand_tri {i : Nat} {ps : List Nat} (h : ps ∈ triF (List.range i)) (s : Nat) : (cands i ps).getD s [] ∈ triF (List.range (i + 1)) := by
  rw [List.range_succ, triF_snoc]
  match s with
  | 0 => exact ⟨ps, h, .inl rfl⟩
  | 1 => exact ⟨ps, h, .inr (.inl rfl)⟩
  | 2 => exact ⟨ps, h, .inr (.inr rfl)⟩
  | s + 3 => exact ⟨[], by
      have : ∀ l : List Nat, [] ∈ triF l := by
        intro l
        induction l with
        | nil => simp [triF]
        | cons a l ih => rw [triF]; simp [ih]
      exact this _, .inl rfl⟩
theorem cand_set {n i s : Nat} {ps : List Nat} (h : ps ∈ triF (List.range i)) (hi : i < n) (hs : s < 3) : (setL n ps).set i ((s : Int) - 1) = setL n ((cands i ps).getD s []) := by
  have key : ∀ c, c ≤ 1 → (setL n ps).set i (c : Nat) = setL n (ps ++ [2 * i + c]) := fun c hc => by
    have e1 : (2 * i + c) / 2 = i := by omega
    rw [← setL_add (p := 2 * i + c) (by omega) (no_place h e1) (no_place h (by rw [mate_div]; exact e1)), e1, show (2 * i + c) % 2 = c by omega]
  have hcases : s = 0 ∨ s = 1 ∨ s = 2 := by omega
  rcases hcases with rfl | rfl | rfl
  · have h1 : at0 (setL n ps) i = -1 := by rw [at0_setL _ hi, if_neg (no_place h (by omega)), if_neg (no_place h (by omega))]
    have hil : i < (setL n ps).length := by rw [setL_len]; exact hi
    have h2 : (setL n ps)[i] = -1 := by rw [← nth_eq hil]; exact h1
    show (setL n ps).set i (-1) = setL n ps
    rw [← h2, List.set_getElem_self]
  · exact key 0 (by omega)
  · exact key 1 (by omega)
end Go.Proofs.Ytdhdpbnlhnodjaa

/-  The places that a setting uses; no program in sight. -/
namespace Go.Proofs.Ytdhdpbnlhnodjaa
open Go.RowKit
open Sat (okF free setL)

theorem okF_snoc (L : Sat.Lay) (p : Nat) : ∀ (ps used : List Nat), okF L used (ps ++ [p]) = (okF L used ps && free L p (used ++ ps))
  | [], used => by simp [okF]
  | q :: ps, used => by
    rw [List.cons_append, okF, okF, okF_snoc L p ps, Bool.and_assoc, List.append_assoc]; rfl
/-- the places of the first k names -/
def useL (st : List Int) : Nat → List Nat
  | 0 => []
  | k + 1 => useL st k ++ if 0 ≤ nth st k then [2 * k + (nth st k).toNat] else []
theorem useL_lt (st : List Int) (h : ∀ x ∈ st, -1 ≤ x ∧ x ≤ 1) : ∀ k, k ≤ st.length → ∀ p ∈ useL st k, p / 2 < k ∧ nth st (p / 2) = ((p % 2 : Nat) : Int)
  | 0, _, p, hp => absurd hp (by simp [useL])
  | k + 1, hk, p, hp => by
    have hx := h _ (List.getElem_mem (show k < st.length by omega))
    rw [← nth_eq (show k < st.length by omega)] at hx
    rw [useL] at hp
    rcases List.mem_append.1 hp with hp | hp
    · have := useL_lt st h k (by omega) p hp
      exact ⟨by omega, this.2⟩
    · split at hp
      · have e : p = 2 * k + (nth st k).toNat := by simpa using hp
        have e1 : p / 2 = k := by omega
        exact ⟨by omega, by rw [e1]; omega⟩
      · simp at hp
theorem useL_mem (st : List Int) : ∀ k, ∀ i, i < k → 0 ≤ nth st i → 2 * i + (nth st i).toNat ∈ useL st k
  | 0, i, hi, _ => absurd hi (Nat.not_lt_zero _)
  | k + 1, i, hi, h0 => by
    rw [useL]
    by_cases e : i = k
    · subst e; rw [if_pos h0]; simp
    · exact List.mem_append_left _ (useL_mem st k i (by omega) h0)
theorem useL_len (st : List Int) : ∀ k, k ≤ st.length → (useL st k).length = cntS (st.take k)
  | 0, _ => by simp [useL, cntS]
  | k + 1, hk => by
    rw [useL, List.length_append, useL_len st k (by omega), cntS_snoc st k (by omega)]
    split <;> rfl
theorem useL_one (st : List Int) (h : ∀ x ∈ st, -1 ≤ x ∧ x ≤ 1) (k : Nat) (hk : k ≤ st.length) : Sat.One (useL st k) := fun p hp hm => by
  have h1 := useL_lt st h k hk p hp
  have h2 := useL_lt st h k hk _ hm
  rw [Sat.mate_div] at h2
  have h3 := h1.2.symm.trans h2.2
  have h4 := Sat.mate_ne p
  have h5 : Sat.mate p / 2 = p / 2 := Sat.mate_div p
  omega
theorem useL_set (st : List Int) (h : ∀ x ∈ st, -1 ≤ x ∧ x ≤ 1) : setL st.length (useL st st.length) = st := by
  apply List.ext_getElem
  · rw [Sat.setL_len]
  · intro i h1 h2
    have hx := h _ (List.getElem_mem h2)
    rw [← nth_eq h1, nth_at0, Sat.at0_setL _ (by rw [Sat.setL_len] at h1; exact h1)]
    rw [← nth_eq h2] at hx ⊢
    have key : ∀ c, c ≤ 1 → (2 * i + c ∈ useL st st.length ↔ nth st i = (c : Nat)) := fun c hc => by
      constructor
      · intro hm
        have := useL_lt st h _ (Nat.le_refl _) _ hm
        rw [show (2 * i + c) / 2 = i by omega, show (2 * i + c) % 2 = c by omega] at this
        exact this.2
      · intro e
        have := useL_mem st st.length i h2 (by omega)
        rw [show (nth st i).toNat = c by omega] at this
        exact this
    have k0 := key 0 (by omega)
    have k1 := key 1 (by omega)
    rw [Nat.add_zero] at k0
    by_cases e0 : 2 * i ∈ useL st st.length
    · rw [if_pos e0]; have := k0.1 e0; omega
    · rw [if_neg e0]
      by_cases e1 : 2 * i + 1 ∈ useL st st.length
      · rw [if_pos e1]; have := k1.1 e1; omega
      · rw [if_neg e1]
        have n0 : ¬ nth st i = ((0 : Nat) : Int) := fun e => e0 (k0.2 e)
        have n1 : ¬ nth st i = ((1 : Nat) : Int) := fun e => e1 (k1.2 e)
        omega
theorem rightI_use {n : Nat} {mn : List (Nat × Nat)} {cn : List Nat} (hS : Shn n mn cn) {st : List Int} (hl : st.length = n) (h : ∀ x ∈ st, -1 ≤ x ∧ x ≤ 1) :
    rightI (mn.map prI) (cn.map fun (c : Nat) => (c : Int)) st = okF hS.lay [] (useL st n) := by
  subst hl
  have e := useL_set st h
  conv => { lhs; rw [← e] }
  rw [rightI_nat hS (useL_one st h _ (Nat.le_refl _)), ← Sat.okF_rightP hS.ne]
  rfl
end Go.Proofs.Ytdhdpbnlhnodjaa

/-  The definitions' Most. -/
namespace Go.Proofs.Ytdhdpbnlhnodjaa
open Go.RowKit
open Sat (triO triF setL cands bestF mostF okF rightP)

theorem pow3 {i : Nat} (h : i ≤ 10) : 3 ^ i ≤ 59049 := Nat.pow_le_pow_right (n := 3) (by decide) h
theorem row_map {l : List (List Nat)} {g : List Nat → List Int} {k : Nat} (hk : k < l.length) : row (l.map g) k = g (l.getD k []) := by
  rw [row_eq (by simpa using hk)]; simp [hk]
theorem Rows2.form' {w : World} {v : Value} {xss : List (List Int)} (h : Rows2 w v xss) : ∃ a n c, v = .slice a n c := by obtain ⟨a, c, e⟩ := h.form; exact ⟨a, _, c, e⟩
set_option maxRecDepth 100000 in
set_option maxHeartbeats 8000000 in
theorem MostOf_calls (n : Nat) (mv cv : Value) (mn : List (Nat × Nat)) (cn : List Nat) (hS : Shn n mn cn) (W : World) (hs : Sht W mv cv (mn.map prI) (cn.map fun (c : Nat) => (c : Int))) :
    Calls Try.prog 73 #[.agg #[.int .i64 n, mv, cv]] W (Gives (.int .i64 ((mostF hS.lay (List.range n) [] : Nat) : Int)) W) := by
  have HVS := Lib.hid hS.v
  have h10 := hS.n10
  have h1 := hS.n1
  obtain ⟨L, hL⟩ : ∃ L, hS.lay = L := ⟨_, rfl⟩
  have HRT := Lib.hid (show ∀ ps, Sat.One ps → rightI (mn.map prI) (cn.map fun (c : Nat) => (c : Int)) (setL n ps) = okF L [] ps from fun ps h => by
    rw [rightI_nat hS h, ← Sat.okF_rightP hS.ne, ← hL]; rfl)
  rw [hL]
  obtain ⟨R, hR⟩ : ∃ R, mostF L (List.range n) [] = R := ⟨_, rfl⟩
  have HBEST := Lib.hid (show bestF (triO L n) = R by rw [← hR]; exact Sat.bestF_most n)
  rw [hR]
  obtain ⟨ms, hms⟩ : ∃ ms, mn.map prI = ms := ⟨_, rfl⟩
  obtain ⟨cs, hcs⟩ : ∃ cs, (cn.map fun (c : Nat) => (c : Int)) = cs := ⟨_, rfl⟩
  rw [hms, hcs] at hs HVS HRT
  clear hms hcs hL hR
  obtain ⟨am, lm, cm, rfl⟩ : ∃ a n c, mv = .slice a n c := by obtain ⟨a, c, e⟩ := hs.m.form; exact ⟨a, _, c, e⟩
  obtain ⟨ac, lc, cc, rfl⟩ : ∃ a n c, cv = .slice a n c := by obtain ⟨a, c, e⟩ := hs.c.form; exact ⟨a, _, c, e⟩
  have HLM := Lib.hid (show lm = ms.length by obtain ⟨a, c, e⟩ := hs.m.form; cases e; rfl)
  have HLC := Lib.hid (show lc = cs.length by obtain ⟨a, c, e⟩ := hs.c.form; cases e; rfl)
  have hmk := run_make_ints n (by omega)
  go_enter Try.func73, Try.ntmps73
  go_wp2_with fail
  obtain ⟨B, hB⟩ : ∃ B, B = W.heap.size := ⟨_, rfl⟩
  obtain ⟨z, hz⟩ : ∃ z : Later W, z.w = W.alloc (.cells #[.int .i64 n, .slice am lm cm, .slice ac lc cc] 25) := ⟨Later.new _ _, rfl⟩
  have c0 : z.w.cell? ⟨B, 0, none⟩ = some (.int .i64 n) := by rw [hz, hB]; simp [go_sem]
  have c1 : z.w.cell? ⟨B, 1, none⟩ = some (.slice am lm cm) := by rw [hz, hB]; simp [go_sem]
  have c2 : z.w.cell? ⟨B, 2, none⟩ = some (.slice ac lc cc) := by rw [hz, hB]; simp [go_sem]
  have hBz : B < z.w.heap.size := by rw [hz, hB]; simp [go_sem]
  rw [← hz, ← hB]
  replace hs := hs.later z
  
  have HZ : Hid (z.w.heap.size = B + 1) := Lib.hid (by rw [hz, hB]; simp)
  clear hz hB
  obtain ⟨S, hS0⟩ : ∃ S, B + 1 = S := ⟨_, rfl⟩
  have hzS : z.w.heap.size = S := by rw [HZ.out, hS0]
  have hI0 := (IntsM.zeros z.w (lo := z.w.heap.size) (n := n) rfl (Nat.le_refl _) (by omega)).later (Later.new _ (.cells #[.slice (some ⟨S, 0, none⟩) n n] 23))
  have hb0 : ((z.w.alloc (.cells (madeCells #[.int .i64 0] n) 3)).alloc (.cells #[.slice (some ⟨S, 0, none⟩) n n] 23)).cell? ⟨S + 1, 0, none⟩ = some (.slice (some ⟨S, 0, none⟩) n n) := by rw [← hzS]; simp [go_sem]
  rw [Later.new_w] at hI0
  rw [hS0]
  obtain ⟨u0, hu0⟩ : ∃ q : Later z.w, (z.w.alloc (.cells (madeCells #[.int .i64 0] n) 3)).alloc (.cells #[.slice (some ⟨S, 0, none⟩) n n] 23) = q.w := ⟨(Later.new _ _).step (Later.new _ _), rfl⟩
  rw [hu0] at hI0 hb0 ⊢
  rw [hzS] at hI0
  have HS0 := Lib.hid hzS
  clear hu0 hS0 hzS hmk
  go_loopw [4] (fun i wr => ∃ (j : Nat) (y : Later z.w), wr = y.w ∧ j ≤ n ∧ i = .int .i64 j ∧ y.w.cell? ⟨S + 1, 0, none⟩ = some (.slice (some ⟨S, 0, none⟩) n n) ∧ IntsM S y.w (.slice (some ⟨S, 0, none⟩) n n) (List.replicate j (-1) ++ List.replicate (n - j) 0)) (fun i _ => n - (intOf i).toNat)
  case atStart => exact ⟨0, u0, rfl, Nat.zero_le _, rfl, hb0, by simpa using hI0⟩
  case round =>
    clear hI0 hb0 u0
    obtain ⟨j, y, rfl, hj, rfl, hb0, hI⟩ := hrel
    have g0 : y.w.cell? ⟨B, 0, none⟩ = some (.int .i64 n) := ((y).cell hBz).trans c0
    have g1 : y.w.cell? ⟨B, 1, none⟩ = some (.slice am lm cm) := ((y).cell hBz).trans c1
    have g2 : y.w.cell? ⟨B, 2, none⟩ = some (.slice ac lc cc) := ((y).cell hBz).trans c2
    have gB : B < y.w.heap.size := Nat.lt_of_lt_of_le hBz (y).size
    have hbl := World.block_lt_of_cell? _ _ hb0
    by_cases hjn : j < n
    · obtain ⟨g, e1, -, -, hgl, -, hfz, hcl, hI2, hgr⟩ := hI.set (k := j) (by simp; omega) (-1)
      obtain rfl : g = S := (Addr.some_block e1).symm
      clear e1
      obtain ⟨ov, hov⟩ : ∃ v, nth (List.replicate j (-1) ++ List.replicate (n - j) 0) j = v := ⟨_, rfl⟩
      rw [hov] at hcl
      have HGR := Lib.hid hgr
      clear hov hgr
      go_wp2
      go_roundw
      case rel =>
        obtain ⟨q, hq⟩ := IntsM.stepB y HS0.out hI HGR.out
        have hb1 := HGR.out.cell hb0 (by simp)
        rw [rep_set _ _ hjn, hq] at hI2
        rw [hq] at hb1
        exact ⟨j + 1, q, hq, by omega, by go_num, hb1, hI2⟩
      case measure => simp [intOf]; omega
    · obtain rfl : n = j := by omega
      have hR0 : Rows2 y.w (.slice (some ⟨S + 1, 0, none⟩) 1 1) ((triO L 0).map (setL n)) := by
        refine ⟨by simp [triO], .inr ⟨S + 1, 0, 1, fun _ => .slice (some ⟨S, 0, none⟩) n n, rfl, by simp [triO], hbl, fun k hk => ?_⟩⟩
        obtain rfl : k = 0 := by simp [triO] at hk; omega
        refine ⟨hb0, ?_⟩
        have e : (List.replicate n (-1 : Int) ++ List.replicate (n - n) 0) = row ((triO L 0).map (setL n)) 0 := by simp [triO, row, Sat.setL_nil]
        rw [← e]
        exact hI.ints (by simp; omega)
      have h1l : (triO L 0).length = 1 := rfl
      clear g0 g1 g2 gB hj hI hb0 hbl
      go_wp2
      clear HZ HS0 h1l hjn
      go_loopw [3, 5] (fun lv i wr => ∃ (i' : Nat) (u : Later z.w), wr = u.w ∧ i' ≤ n ∧ i = .int .i64 i' ∧ Rows2 u.w lv ((triO L i').map (setL n))) (fun lv i _ => n - (intOf i).toNat)
      case atStart => exact ⟨0, y, rfl, Nat.zero_le _, rfl, hR0⟩
      case round =>
        clear hR0 y
        obtain ⟨i, u, rfl, hi, rfl, hR⟩ := hrel
        obtain ⟨al, ll, cl, rfl⟩ := hR.form'
        have HLL := Lib.hid (show ll = (triO L i).length by obtain ⟨a, c, e⟩ := hR.form; cases e; simp)
        have hll : ll ≤ 59049 := by rw [HLL.out]; exact Nat.le_trans (Sat.triO_len i) (pow3 (by omega))
        have g0 : u.w.cell? ⟨B, 0, none⟩ = some (.int .i64 n) := ((u).cell hBz).trans c0
        have g1 : u.w.cell? ⟨B, 1, none⟩ = some (.slice am lm cm) := ((u).cell hBz).trans c1
        have g2 : u.w.cell? ⟨B, 2, none⟩ = some (.slice ac lc cc) := ((u).cell hBz).trans c2
        have gB : B < u.w.heap.size := Nat.lt_of_lt_of_le hBz (u).size
        by_cases hin : i < n
        · go_wp2
          clear g0 g1 g2 gB
          go_loopw [6, 7] (fun nv kv wr => ∃ (k : Nat) (y : Later u.w), wr = y.w ∧ k ≤ ll ∧ kv = .int .i64 k ∧ Rows2M u.w.heap.size y.w nv ((rndF L i k 0).map (setL n))) (fun nv kv _ => ll - (intOf kv).toNat)
          case atStart => exact ⟨0, Later.self _, rfl, Nat.zero_le _, rfl, by rw [rndF_zero]; exact Rows2M.nil _ _⟩
          case round =>
            obtain ⟨k, y, rfl, hk, rfl, hN⟩ := hrel
            by_cases hkl : k < ll
            · obtain ⟨bm, om, km, fm, e, hkm, hbm, hgm⟩ := hR.at (k := k) (by rw [List.length_map, ← HLL.out]; exact hkl)
              injection e with e1 e2 e3
              subst e1
              have hkT : k < (triO L i).length := by rw [← HLL.out]; exact hkl
              obtain ⟨m1, hrow⟩ := hgm k (by rw [List.length_map]; exact hkT)
              rw [row_map hkT] at hrow
              obtain ⟨ps, hps⟩ : ∃ ps, (triO L i).getD k [] = ps := ⟨_, rfl⟩
              rw [hps] at hrow
              have hmem : ps ∈ triO L i := by rw [← hps]; simp [hkT]
              have htri := (Sat.mem_triO.1 hmem).1
              have HTRI := Lib.hid htri
              have HPS := Lib.hid hps
              have HKT := Lib.hid hkT
              have hlr : (setL n ps).length = n := Sat.setL_len n ps
              obtain ⟨ar, cr, efr⟩ := hrow.form
              rw [hlr] at efr
              rw [efr] at m1 hrow
              have HM1 := Lib.hid m1
              clear e2 e3 hgm hkm hps hmem htri efr hkT hlr m1
              go_wp2
              go_loopw [6, 8] (fun nv sv wr => ∃ (s : Nat) (y : Later u.w), wr = y.w ∧ s ≤ 3 ∧ sv = .int .i64 ((s : Int) - 1) ∧ Rows2M u.w.heap.size y.w nv ((rndF L i k s).map (setL n))) (fun nv sv _ => (2 - intOf sv).toNat)
              case atStart => exact ⟨0, y, rfl, by omega, rfl, hN⟩
              case round =>
                clear hN y
                obtain ⟨s, y, rfl, hs3, rfl, hN⟩ := hrel
                obtain ⟨an, ln, cn', rfl⟩ := hN.form'
                by_cases hs2 : s < 3
                · have m1 := (y.cell hbm).trans HM1.out
                  have ml := Nat.lt_of_lt_of_le hbm y.size
                  have hE := IntsM.empty y.w (lo := y.w.heap.size) rfl (Nat.le_refl _)
                  have hx1 := (hrow.later y).later (Later.new y.w (.cells #[] 3))
                  rw [Later.new_w] at hx1
                  obtain ⟨a1, n1, c1', q1, hr1, hA1⟩ := app_emptyM hE hx1 (by simp) (by rw [Sat.setL_len]; omega) 23
                  have HR1 := Lib.hid hr1
                  have HY := Lib.hid (Nat.lt_of_lt_of_le (Nat.lt_of_lt_of_le hBz u.size) y.size)
                  obtain ⟨v1, hv1⟩ : ∃ q : Later y.w, q1.w = q.w := ⟨(Later.new y.w (.cells #[] 3)).step q1, rfl⟩
                  obtain ⟨G, e1, hn1, hGlo, hgl, -, hfz, hcl, hI2, hgr⟩ := hA1.set (k := i) (by rw [Sat.setL_len]; exact hin) ((s : Int) - 1)
                  rw [Sat.setL_len] at hn1
                  subst e1
                  subst n1
                  have hne : B ≠ G := by have := HY.out; omega
                  have hne' : G ≠ B := fun h => hne h.symm
                  rw [cand_set HTRI.out hin hs2] at hI2
                  rw [hv1] at hA1 hgr
                  obtain ⟨v2, hv2⟩ := IntsM.stepB v1 rfl hA1 hgr
                  rw [← hv1] at hv2
                  have g0 : q1.w.cell? ⟨B, 0, none⟩ = some (.int .i64 n) := by rw [hv1]; exact (((u.step y).step v1).cell hBz).trans c0
                  have g1 : q1.w.cell? ⟨B, 1, none⟩ = some (.slice am lm cm) := by rw [hv1]; exact (((u.step y).step v1).cell hBz).trans c1
                  have g2 : q1.w.cell? ⟨B, 2, none⟩ = some (.slice ac lc cc) := by rw [hv1]; exact (((u.step y).step v1).cell hBz).trans c2
                  have gB : B < q1.w.heap.size := by rw [hv1]; exact Nat.lt_of_lt_of_le hBz ((u.step y).step v1).size
                  obtain ⟨ov, hov⟩ : ∃ v, nth (setL n ps) i = v := ⟨_, rfl⟩
                  rw [hov] at hcl
                  have HGLO := Lib.hid hGlo
                  have HV1 := Lib.hid hv1
                  have HV2 := Lib.hid hv2
                  have HGR := Lib.hid hgr
                  clear hr1 hE hx1 hov hGlo hgr hv1 hv2 hA1
                  go_wp2_with ((with_reducible show wpList _ _ _ (⟨some 50, _, _, _, _, _⟩ :: _) _ _); refine Lib.wpList_append_run_sl _ rfl _ _ 23 rfl _ _ rfl rfl HR1.out ?_)
                  rw [HV2.out]
                  rw [HV2.out] at hI2
                  clear g0 g1 g2 gB hcl hfz hgl
                  have HONE := Lib.hid (Sat.tri_lt (cand_tri HTRI.out s)).2
                  have HSD := Lib.hid (rndF_side L i k hs2)
                  rw [HPS.out] at HSD
                  obtain ⟨cd, hcd⟩ : ∃ cd, (cands i ps).getD s [] = cd := ⟨_, rfl⟩
                  rw [hcd] at hI2 HONE HSD
                  have hcl2 : (setL n cd).length = n := Sat.setL_len n cd
                  have hrt := IsRight_calls n _ _ _ ms cs (setL n cd) _ (((hs.later u).later y).later v2) (hI2.ints (by omega)) HVS.out (by rw [hcl2])
                  rw [HRT.out cd HONE.out] at hrt
                  have hcl3 := Lib.hid hcl2
                  clear hcl2 hcd
                  refine hrt.mono ?_
                  clear hrt
                  rintro e w' ⟨rfl, x1, rfl⟩
                  have hI3 := hI2.later x1
                  have hN3 := (hN.later v2).later x1
                  obtain ⟨V, hV⟩ : ∃ q : Later u.w, x1.w = q.w := ⟨(y.step v2).step x1, rfl⟩
                  have hbig : ((rndF L i k s).map (setL n)).length ≤ 200000 := by
                    rw [List.length_map]
                    have := rndF_len L i k s
                    rw [← HLL.out] at this
                    omega
                  rw [hV] at hI3 hN3 ⊢
                  clear hV hI2 hN m1 ml HR1 HV2 HV1 HGR HGLO
                  cases hr : okF L [] cd
                  · go_wp2
                    go_roundw
                    case rel =>
                      refine ⟨s + 1, V, rfl, by omega, by go_num, ?_⟩
                      rw [HSD.out, hr, if_neg (by simp), List.append_nil]
                      exact hN3
                    case measure => simp [intOf]; omega
                  · obtain ⟨v', q, hrun, hR3, -⟩ := app_row_step V.le hN3 (hI3.ints (by have := hcl3.out; omega)) (Sep.of_own hI3) (by omega) 52
                    have HRUN := Lib.hid hrun
                    clear hrun
                    go_wp2_with ((with_reducible show wpList _ _ _ (⟨some 61, _, _, _, _, _⟩ :: _) _ _); refine Lib.wpList_append_run_sl _ rfl _ _ 52 rfl _ _ rfl rfl HRUN.out ?_)
                    go_roundw
                    case rel =>
                      refine ⟨s + 1, q, rfl, by omega, by go_num, ?_⟩
                      rw [HSD.out, hr, if_pos rfl, List.map_append]
                      exact hR3
                    case measure => simp [intOf]; omega
                · obtain rfl : s = 3 := by omega
                  rw [rndF_next L i HKT.out] at hN
                  go_wp2
                  go_roundw
                  case rel => exact ⟨k + 1, y, rfl, by omega, by go_num, hN⟩
                  case measure => simp [intOf]; omega
            · obtain rfl : ll = k := by omega
              have hN2 := hN
              rw [HLL.out, rndF_all] at hN2
              have hlen2 : ((triO L (i + 1)).map (setL n)).length ≤ 200000 := by
                rw [List.length_map]
                have := Sat.triO_len (L := L) (i + 1)
                have := pow3 (i := i + 1) (by omega)
                omega
              have hN4 := hN2.rows (by omega)
              obtain ⟨V, hV⟩ : ∃ q : Later z.w, y.w = q.w := ⟨u.step y, rfl⟩
              rw [hV] at hN4 ⊢
              clear hV hN hN2 hlen2
              go_wp2
              go_roundw
              case rel => exact ⟨i + 1, V, rfl, by omega, by go_num, hN4⟩
              case measure => simp [intOf]; omega
        · obtain rfl : n = i := by omega
          go_wp2
          clear hi
          go_loopw [10, 11] (fun bv kv wr => ∃ (k m : Nat), wr = u.w ∧ k ≤ ll ∧ m ≤ n ∧ kv = .int .i64 k ∧ bv = .int .i64 m ∧ Hid (m = bestF ((triO L n).take k))) (fun bv kv _ => ll - (intOf kv).toNat)
          case atStart => exact ⟨0, 0, rfl, Nat.zero_le _, Nat.zero_le _, rfl, rfl, rfl⟩
          case round =>
            obtain ⟨k, m, rfl, hk, hmn, rfl, rfl, HM⟩ := hrel
            by_cases hkl : k < ll
            · obtain ⟨bm, om, km, fm, e, hkm, hbm, hgm⟩ := hR.at (k := k) (by rw [List.length_map, ← HLL.out]; exact hkl)
              injection e with e1 e2 e3
              subst e1
              have hkT : k < (triO L n).length := by rw [← HLL.out]; exact hkl
              obtain ⟨m1, hrow⟩ := hgm k (by rw [List.length_map]; exact hkT)
              rw [row_map hkT] at hrow
              obtain ⟨ps, hps⟩ : ∃ ps, (triO L n).getD k [] = ps := ⟨_, rfl⟩
              rw [hps] at hrow
              have hmem : ps ∈ triO L n := by rw [← hps]; simp [hkT]
              have htri := (Sat.mem_triO.1 hmem).1
              have HCNT := Lib.hid (cntS_tri (Nat.le_refl n) htri)
              have HSN := Lib.hid (show bestF ((triO L n).take (k + 1)) = max (bestF ((triO L n).take k)) ps.length by
                rw [List.take_succ_eq_append_getElem hkT, Sat.bestF_snoc, ← hps]; simp [hkT])
              have hpl : ps.length ≤ n := by have := Sat.triF_len _ _ htri; simpa using this
              have hlr : (setL n ps).length = n := Sat.setL_len n ps
              obtain ⟨st, hst⟩ : ∃ st, setL n ps = st := ⟨_, rfl⟩
              rw [hst] at hrow HCNT hlr
              have HLR := Lib.hid hlr
              obtain ⟨br, orr, cr, efr, _, hbr, hcr⟩ := hrow.at (k := 0) (by rw [hlr]; omega)
              rw [hlr] at efr
              rw [efr] at m1 hrow
              have HCR := Lib.hid hcr
              clear e2 e3 hgm hkm hps hmem htri efr hkT hlr hcr hst
              go_wp2
              go_loopw [12, 13] (fun cv jv wr => ∃ (j c : Nat), wr = u.w ∧ j ≤ n ∧ c ≤ j ∧ jv = .int .i64 j ∧ cv = .int .i64 c ∧ Hid (c = cntS (st.take j))) (fun cv jv _ => n - (intOf jv).toNat)
              case atStart => exact ⟨0, 0, rfl, Nat.zero_le _, Nat.zero_le _, rfl, rfl, rfl⟩
              case round =>
                obtain ⟨j, c, rfl, hj, hcj, rfl, rfl, HC⟩ := hrel
                by_cases hjn : j < n
                · have m2 := HCR.out j (by rw [HLR.out]; exact hjn)
                  have HS := Lib.hid (cntS_snoc st j (by rw [HLR.out]; exact hjn))
                  obtain ⟨v, hv⟩ : ∃ v, nth st j = v := ⟨_, rfl⟩
                  rw [hv] at m2 HS
                  clear hv
                  by_cases hv0 : 0 ≤ v
                  · go_wp2
                    go_roundw
                    case rel => exact ⟨j + 1, c + 1, trivial, by omega, by omega, by go_num, by go_num, by unfold Hid; rw [HS.out, HC.out, if_pos hv0]⟩
                    case measure => simp [intOf]; omega
                  · go_wp2
                    go_roundw
                    case rel => exact ⟨j + 1, c, trivial, by omega, by omega, by go_num, by go_num, by unfold Hid; rw [HS.out, HC.out, if_neg hv0]; rfl⟩
                    case measure => simp [intOf]; omega
                · obtain rfl : n = j := by omega
                  have HCC := Lib.hid (show c = ps.length by rw [HC.out, List.take_of_length_le (by rw [HLR.out]; exact Nat.le_refl _), HCNT.out])
                  go_wp2
                  go_roundw
                  case rel => exact ⟨k + 1, max m c, trivial, by omega, by omega, by go_num, by congr 1; omega, by unfold Hid; rw [HSN.out, ← HM.out, ← HCC.out]⟩
                  case measure => simp [intOf]; omega
            · obtain rfl : ll = k := by omega
              have HMM := Lib.hid (show m = R by rw [HM.out, HLL.out, List.take_length, HBEST.out])
              go_wp2
              go_ret
              exact ⟨ret_int (by rw [HMM.out]), z.step u, rfl⟩

set_option maxRecDepth 100000 in
set_option maxHeartbeats 4000000 in
theorem refMost_bad (n : Int) (mv cv : Value) (ms : List (Int × Int)) (cs : List Int) (W : World) (hs : Sht W mv cv ms cs) (hv : vsheet n ms cs ≠ 0) :
    Calls Try.prog 37 #[.agg #[.int .i64 n, mv, cv]] W (Gives (.tuple #[.int .i64 0, .int .i64 (vsheet n ms cs)]) W) := by
  have hvb : (vsheet n ms cs != 0) = true := by simpa using hv
  clear hv
  obtain ⟨am, lm, cm, rfl⟩ : ∃ a n c, mv = .slice a n c := by obtain ⟨a, c, e⟩ := hs.m.form; exact ⟨a, _, c, e⟩
  obtain ⟨ac, lc, cc, rfl⟩ : ∃ a n c, cv = .slice a n c := by obtain ⟨a, c, e⟩ := hs.c.form; exact ⟨a, _, c, e⟩
  have HLM := Lib.hid (show lm = ms.length by obtain ⟨a, c, e⟩ := hs.m.form; cases e; rfl)
  have HLC := Lib.hid (show lc = cs.length by obtain ⟨a, c, e⟩ := hs.c.form; cases e; rfl)
  go_enter Try.func37, Try.ntmps37
  go_wp2_with fail
  obtain ⟨B, hB⟩ : ∃ B, B = W.heap.size := ⟨_, rfl⟩
  obtain ⟨z, hz⟩ : ∃ z : Later W, z.w = W.alloc (.cells #[.int .i64 n, .slice am lm cm, .slice ac lc cc] 25) := ⟨Later.new _ _, rfl⟩
  have c0 : z.w.cell? ⟨B, 0, none⟩ = some (.int .i64 n) := by rw [hz, hB]; simp [go_sem]
  have c1 : z.w.cell? ⟨B, 1, none⟩ = some (.slice am lm cm) := by rw [hz, hB]; simp [go_sem]
  have c2 : z.w.cell? ⟨B, 2, none⟩ = some (.slice ac lc cc) := by rw [hz, hB]; simp [go_sem]
  have hBz : B < z.w.heap.size := by rw [hz, hB]; simp [go_sem]
  rw [← hz, ← hB]
  replace hs := hs.later z
  
  clear hz hB
  refine (refCheckSheet_calls n _ _ ms cs _ hs).mono ?_
  rintro e w' ⟨rfl, x, rfl⟩
  have g0 : x.w.cell? ⟨B, 0, none⟩ = some (.int .i64 n) := ((x).cell hBz).trans c0
  have g1 : x.w.cell? ⟨B, 1, none⟩ = some (.slice am lm cm) := ((x).cell hBz).trans c1
  have g2 : x.w.cell? ⟨B, 2, none⟩ = some (.slice ac lc cc) := ((x).cell hBz).trans c2
  have gB : B < x.w.heap.size := Nat.lt_of_lt_of_le hBz (x).size
  go_wp2_with fail
  refine (refCheckSheet_calls n _ _ ms cs _ (hs.later x)).mono ?_
  rintro e w' ⟨rfl, y, rfl⟩
  go_wp2
  go_ret2
  exact ⟨rfl, (z.step x).step y, rfl⟩

set_option maxRecDepth 100000 in
set_option maxHeartbeats 4000000 in
theorem refMost_calls (n : Nat) (mv cv : Value) (mn : List (Nat × Nat)) (cn : List Nat) (hS : Shn n mn cn) (W : World) (hs : Sht W mv cv (mn.map prI) (cn.map fun (c : Nat) => (c : Int))) :
    Calls Try.prog 37 #[.agg #[.int .i64 n, mv, cv]] W (Gives (.tuple #[.int .i64 ((mostF hS.lay (List.range n) [] : Nat) : Int), .int .i64 0]) W) := by
  have HVS := Lib.hid hS.v
  have HT := Lib.hid (fun (W : World) (mv cv : Value) hs => MostOf_calls n mv cv mn cn hS W hs)
  obtain ⟨ms, hms⟩ : ∃ ms, mn.map prI = ms := ⟨_, rfl⟩
  obtain ⟨cs, hcs⟩ : ∃ cs, (cn.map fun (c : Nat) => (c : Int)) = cs := ⟨_, rfl⟩
  have h10 := hS.n10
  have h1 := hS.n1
  rw [hms, hcs] at hs HVS HT
  obtain ⟨R, hR⟩ : ∃ R, mostF hS.lay (List.range n) [] = R := ⟨_, rfl⟩
  rw [hR] at HT ⊢
  clear hms hcs hR
  obtain ⟨am, lm, cm, rfl⟩ : ∃ a n c, mv = .slice a n c := by obtain ⟨a, c, e⟩ := hs.m.form; exact ⟨a, _, c, e⟩
  obtain ⟨ac, lc, cc, rfl⟩ : ∃ a n c, cv = .slice a n c := by obtain ⟨a, c, e⟩ := hs.c.form; exact ⟨a, _, c, e⟩
  have HLM := Lib.hid (show lm = ms.length by obtain ⟨a, c, e⟩ := hs.m.form; cases e; rfl)
  have HLC := Lib.hid (show lc = cs.length by obtain ⟨a, c, e⟩ := hs.c.form; cases e; rfl)
  go_enter Try.func37, Try.ntmps37
  go_wp2_with fail
  obtain ⟨B, hB⟩ : ∃ B, B = W.heap.size := ⟨_, rfl⟩
  obtain ⟨z, hz⟩ : ∃ z : Later W, z.w = W.alloc (.cells #[.int .i64 n, .slice am lm cm, .slice ac lc cc] 25) := ⟨Later.new _ _, rfl⟩
  have c0 : z.w.cell? ⟨B, 0, none⟩ = some (.int .i64 n) := by rw [hz, hB]; simp [go_sem]
  have c1 : z.w.cell? ⟨B, 1, none⟩ = some (.slice am lm cm) := by rw [hz, hB]; simp [go_sem]
  have c2 : z.w.cell? ⟨B, 2, none⟩ = some (.slice ac lc cc) := by rw [hz, hB]; simp [go_sem]
  have hBz : B < z.w.heap.size := by rw [hz, hB]; simp [go_sem]
  rw [← hz, ← hB]
  replace hs := hs.later z
  
  clear hz hB
  refine (refCheckSheet_calls n _ _ ms cs _ hs).mono ?_
  rintro e w' ⟨rfl, x, rfl⟩
  have g0 : x.w.cell? ⟨B, 0, none⟩ = some (.int .i64 n) := ((x).cell hBz).trans c0
  have g1 : x.w.cell? ⟨B, 1, none⟩ = some (.slice am lm cm) := ((x).cell hBz).trans c1
  have g2 : x.w.cell? ⟨B, 2, none⟩ = some (.slice ac lc cc) := ((x).cell hBz).trans c2
  have gB : B < x.w.heap.size := Nat.lt_of_lt_of_le hBz (x).size
  rw [HVS.out]
  go_wp2_with fail
  refine (HT.out _ _ _ (hs.later x)).mono ?_
  rintro e w' ⟨rfl, y, rfl⟩
  go_wp2
  go_ret2
  exact ⟨rfl, (z.step x).step y, rfl⟩

end Go.Proofs.Ytdhdpbnlhnodjaa
