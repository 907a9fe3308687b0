import Derived.Test.YtpkgfkeekcgkcaaLwE
/-  What merging is, by letters and places: in whatever order the same. -/
namespace Go.Proofs.Ytpkgfkeekcgkcaa
open Go.RowKit
theorem clashB_iff (x y : List UInt8) : clashB x y = true ↔ x ≠ [] ∧ y ≠ [] ∧ x ≠ y := by
  have h : clashB x y = (!x.isEmpty && (!y.isEmpty && !(x == y))) := rfl
  rw [h]; simp
theorem clashB_off (x y : List UInt8) : clashB x y = false ↔ (x = [] ∨ y = [] ∨ x = y) := by
  rw [← Bool.not_eq_true, clashB_iff]
  by_cases h1 : x = []
  · simp [h1]
  · by_cases h2 : y = []
    · simp [h2]
    · simp [h1, h2]
theorem clashB_comm (x y : List UInt8) : clashB x y = clashB y x := by
  rw [Bool.eq_iff_iff, clashB_iff, clashB_iff]
  constructor <;> rintro ⟨h1, h2, h3⟩ <;> exact ⟨h2, h1, fun e => h3 e.symm⟩
section
variable (ad ad2 : List (List UInt8))
def offTo (m : Nat) : Prop := ∀ j, j < m → clashB (sat ad j) (sat ad2 j) = false
theorem off_or : ∀ m, offTo ad ad2 m ∨ ∃ k, k < m ∧ clashB (sat ad k) (sat ad2 k) = true ∧ offTo ad ad2 k
  | 0 => .inl fun j hj => absurd hj (Nat.not_lt_zero _)
  | m + 1 => by
    rcases off_or m with h | ⟨k, hk, h1, h2⟩
    · cases hb : clashB (sat ad m) (sat ad2 m)
      · refine .inl fun j hj => ?_
        by_cases e : j = m
        · rw [e]; exact hb
        · exact h j (by omega)
      · exact .inr ⟨m, Nat.lt_succ_self m, hb, h⟩
    · exact .inr ⟨k, by omega, h1, h2⟩
end
section
variable {ad ad2 : List (List UInt8)}
theorem offTo.comm {m : Nat} (h : offTo ad ad2 m) : offTo ad2 ad m := fun j hj => by rw [clashB_comm]; exact h j hj
theorem clashN_cases (ad ad2 : List (List UInt8)) : (clashN ad ad2 = -1 ∧ offTo ad ad2 ad.length) ∨ ∃ k : Nat, k < ad.length ∧ clashN ad ad2 = k ∧ clashB (sat ad k) (sat ad2 k) = true ∧ offTo ad ad2 k := by
  rcases off_or ad ad2 ad.length with h | ⟨k, hk, h1, h2⟩
  · exact .inl ⟨clashN_no h, h⟩
  · exact .inr ⟨k, hk, clashN_yes hk h2 h1, h1, h2⟩
theorem clashN_comm (hl : ad2.length = ad.length) : clashN ad2 ad = clashN ad ad2 := by
  rcases clashN_cases ad ad2 with ⟨h, h1⟩ | ⟨k, hk, h, h1, h2⟩
  · rw [h]; exact clashN_no (by rw [hl]; exact h1.comm)
  · rw [h]; exact clashN_yes (by rw [hl]; exact hk) h2.comm (by rw [clashB_comm]; exact h1)
theorem clashN_same {bd bd2 : List (List UInt8)} (hl : bd.length = ad.length) (h : ∀ j, j < ad.length → clashB (sat ad j) (sat ad2 j) = clashB (sat bd j) (sat bd2 j)) : clashN bd bd2 = clashN ad ad2 := by
  rcases clashN_cases ad ad2 with ⟨h0, h1⟩ | ⟨k, hk, h0, h1, h2⟩
  · rw [h0]; exact clashN_no fun j hj => by rw [← h j (by omega)]; exact h1 j (by omega)
  · rw [h0]; exact clashN_yes (by omega) (fun j hj => by rw [← h j (by omega)]; exact h2 j hj) (by rw [← h k hk]; exact h1)
/-- one string of merged marks -/
def mg1 (x y : List UInt8) : List UInt8 := if x = [] then y else x
theorem mgA_sat (ad ad2 : List (List UInt8)) {k n : Nat} (h : k < n) : sat (mgA ad ad2 n) k = mg1 (sat ad k) (sat ad2 k) := by
  rw [sat_eq (by rw [mgA_len]; exact h)]
  simp [mgA, mg1]
theorem mg1_nil (x : List UInt8) : mg1 x [] = x := by
  rw [mg1]; split
  · next h => exact h.symm
  · rfl
theorem mg1_self (x : List UInt8) : mg1 x x = x := by
  rw [mg1]; split <;> rfl
theorem mg1_comm {x y : List UInt8} (h : clashB x y = false) : mg1 x y = mg1 y x := by
  rw [clashB_off] at h
  rcases h with rfl | rfl | rfl
  · rw [mg1_nil]; rfl
  · rw [mg1_nil]; rfl
  · rfl
theorem mg1_assoc (x y z : List UInt8) : mg1 (mg1 x y) z = mg1 x (mg1 y z) := by
  by_cases h1 : x = []
  · subst h1; rfl
  · rw [show mg1 x y = x from if_neg h1, show mg1 x (mg1 y z) = x from if_neg h1, mg1, if_neg h1]
theorem mg1_clash {x y z : List UInt8} (h : clashB x y = false) (h2 : clashB y z = false) : clashB (mg1 x y) z = clashB x (mg1 y z) := by
  rw [clashB_off] at h h2
  rcases h with rfl | rfl | rfl
  · have : clashB (mg1 [] y) z = false := by
      rw [clashB_off]
      exact h2
    rw [this]; rfl
  · rw [mg1_nil]; rfl
  · rw [mg1_self]
    rcases h2 with rfl | rfl | rfl
    · rfl
    · rw [mg1_nil, (clashB_off _ _).2 (.inr (.inl rfl)), (clashB_off _ _).2 (.inr (.inr rfl))]
    · rw [mg1_self]
theorem mg1_clash_on {x y z : List UInt8} (h : clashB x y = false) (h2 : clashB y z = true) : clashB (mg1 x y) z = true := by
  have h3 := (clashB_iff _ _).1 h2
  rw [mg1_comm h, mg1, if_neg h3.1]; exact h2
theorem mg1_len {x y : List UInt8} (h : clashB x y = false) : x.length ≤ (mg1 x y).length ∧ y.length ≤ (mg1 x y).length ∧ (mg1 x y).length ≤ x.length + y.length := by
  rw [clashB_off] at h
  rcases h with rfl | rfl | rfl
  · rw [show mg1 [] y = y from rfl]; simp
  · rw [mg1_nil]; simp
  · rw [mg1_self]; omega
theorem cn_mg {n : Nat} (h : offTo ad ad2 n) : ∀ k, k ≤ n → cn ad k ≤ cn (mgA ad ad2 n) k ∧ cn ad2 k ≤ cn (mgA ad ad2 n) k ∧ cn (mgA ad ad2 n) k ≤ cn ad k + cn ad2 k
  | 0, _ => ⟨Nat.le_refl _, Nat.le_refl _, Nat.le_refl _⟩
  | k + 1, hk => by
    have ih := cn_mg h k (by omega)
    have h1 := mg1_len (h k (by omega))
    rw [cn, cn, cn, mgA_sat ad ad2 (show k < n by omega)]
    omega
theorem list_sat {xs ys : List (List UInt8)} (hl : xs.length = ys.length) (h : ∀ j, j < xs.length → sat xs j = sat ys j) : xs = ys := sat_ext hl fun j hj => by simpa using h j hj
end
/-! ### letters that are struck -/
def fltI (p : Nat → Bool) (n : Nat) : List Int := ((List.range n).filter p).map fun (i : Nat) => (i : Int)
theorem fltI_has (p : Nat → Bool) (n x : Nat) : hasB (fltI p n) (x : Int) = (decide (x < n) && p x) := by
  rw [Bool.eq_iff_iff, hasB, List.any_eq_true]
  simp only [fltI, List.mem_map, List.mem_filter, List.mem_range, Bool.and_eq_true, decide_eq_true_eq]
  constructor
  · rintro ⟨y, ⟨i, ⟨h1, h2⟩, rfl⟩, h3⟩
    have h4 : (i : Int) = x := by simpa using h3
    have : i = x := by omega
    subst this
    exact ⟨h1, h2⟩
  · rintro ⟨h1, h2⟩
    exact ⟨x, ⟨x, ⟨h1, h2⟩, rfl⟩, by simp⟩
theorem fltI_congr {p q : Nat → Bool} {n : Nat} (h : ∀ x, x < n → p x = q x) : fltI p n = fltI q n := by
  rw [fltI, fltI]
  congr 1
  exact List.filter_congr fun x hx => h x (List.mem_range.1 hx)
theorem mgS_flt (st st2 : List Int) (n : Nat) : mgS st st2 n = fltI (fun i => hasB st (i : Int) || hasB st2 (i : Int)) n := rfl
theorem mgS_has (st st2 : List Int) {n x : Nat} (h : x < n) : hasB (mgS st st2 n) (x : Int) = (hasB st (x : Int) || hasB st2 (x : Int)) := by
  rw [mgS_flt, fltI_has, decide_eq_true h, Bool.true_and]
theorem Okm.flt {l : List UInt8} {st : List Int} {ad : List (List UInt8)} (h : Okm l st ad) : fltI (fun i => hasB st (i : Int)) l.length = st := by
  have h1 := h.stkE
  rw [strk, List.range_succ, List.filter_append] at h1
  have h2 : ([l.length].filter fun i => decide (i < l.length) && hasB st (i : Int)) = [] := by simp
  rw [h2, List.append_nil] at h1
  have h3 : (List.range l.length).filter (fun i : Nat => hasB st (i : Int)) = st.map Int.toNat := by
    rw [← h1]
    exact List.filter_congr fun x hx => by rw [decide_eq_true (List.mem_range.1 hx), Bool.true_and]
  rw [fltI, h3, List.map_map]
  refine (List.map_congr_left (g := id) fun x hx => ?_).trans (List.map_id _)
  obtain ⟨k, hk, rfl⟩ := List.mem_iff_getElem.1 hx
  have := h.sr k hk
  rw [nth_eq hk] at this
  simp only [Function.comp, id]
  omega
theorem fltI_len (p : Nat → Bool) (n : Nat) : (fltI p n).length = ((List.range n).filter p).length := by rw [fltI, List.length_map]
theorem filter_or_len {α : Type} (p q : α → Bool) : ∀ l : List α, (l.filter p).length ≤ (l.filter fun x => p x || q x).length ∧ (l.filter q).length ≤ (l.filter fun x => p x || q x).length ∧ (l.filter fun x => p x || q x).length ≤ (l.filter p).length + (l.filter q).length
  | [] => ⟨Nat.le_refl _, Nat.le_refl _, Nat.le_refl _⟩
  | x :: l => by
    have ih := filter_or_len p q l
    rw [List.filter_cons, List.filter_cons, List.filter_cons]
    cases p x <;> cases q x <;> simp <;> omega
theorem fltI_inc (p : Nat → Bool) (n : Nat) : (fltI p n).Pairwise (· < ·) := by
  rw [fltI, List.pairwise_map]
  refine (List.Pairwise.filter p List.pairwise_lt_range).imp ?_
  intro a b h; omega
section
variable {l : List UInt8} {st st2 st3 : List Int} {ad ad2 ad3 : List (List UInt8)}
/-- merged marks are marks -/
theorem okm_mg (h : Okm l st ad) (h2 : Okm l st2 ad2) : Okm l (mgS st st2 l.length) (mgA ad ad2 (l.length + 1)) := by
  refine ⟨h.l12, mgA_len _ _ _, fun s hs => ?_, fun i hi => ?_, fun i hi => ?_⟩
  · obtain ⟨k, hk, rfl⟩ := List.mem_iff_getElem.1 hs
    rw [mgA_len] at hk
    have := mgA_sat ad ad2 hk
    rw [sat_eq (by rw [mgA_len]; exact hk)] at this
    rw [this, mg1]
    split
    · exact h2.sat12 k
    · exact h.sat12 k
  · rw [nth_eq hi]
    have hmem : (mgS st st2 l.length)[i] ∈ fltI (fun i => hasB st (i : Int) || hasB st2 (i : Int)) l.length := List.getElem_mem hi
    rw [fltI, List.mem_map] at hmem
    obtain ⟨x, hx, e⟩ := hmem
    have hx := List.mem_range.1 (List.mem_filter.1 hx).1
    omega
  · rw [nth_eq (by omega), nth_eq hi]
    exact List.pairwise_iff_getElem.1 (fltI_inc (fun i => hasB st (i : Int) || hasB st2 (i : Int)) l.length) i (i + 1) _ hi (Nat.lt_succ_self i)
theorem Okm.both (h : Okm l st ad) (h2 : Okm l st2 ad2) : bothE l st ad st2 ad2 = 0 := by rw [bothE, h.e, if_neg (by simp), h2.e]
/-- marks that contradict each other -/
theorem merge_on (h : Okm l st ad) (h2 : Okm l st2 ad2) (hc : 0 ≤ clashN ad ad2) : mergeS l st ad st2 ad2 = [] ∧ mergeA l st ad st2 ad2 = [] ∧ mergeE l st ad st2 ad2 = 21 := by
  have hE : mergeE l st ad st2 ad2 = 21 := by rw [mergeE, h.both h2, if_neg (by simp), if_pos hc]
  rw [mergeS, mergeA, hE]; exact ⟨if_neg (by decide), if_neg (by decide), rfl⟩
theorem merge_off (h : Okm l st ad) (h2 : Okm l st2 ad2) (hc : ¬ 0 ≤ clashN ad ad2) : mergeS l st ad st2 ad2 = mgS st st2 l.length ∧ mergeA l st ad st2 ad2 = mgA ad ad2 (l.length + 1) ∧ mergeE l st ad st2 ad2 = 0 := by
  have hE : mergeE l st ad st2 ad2 = 0 := by rw [mergeE, h.both h2, if_neg (by simp), if_neg hc]
  rw [mergeS, mergeA, hE]; exact ⟨if_pos rfl, if_pos rfl, rfl⟩
theorem clash_off {h : offTo ad ad2 ad.length} : ¬ 0 ≤ clashN ad ad2 := by rw [clashN_no h]; decide
theorem off_of (hc : ¬ 0 ≤ clashN ad ad2) : offTo ad ad2 ad.length := by
  rcases clashN_cases ad ad2 with ⟨_, h⟩ | ⟨k, _, h, _⟩
  · exact h
  · rw [h] at hc; omega
/-- with themselves -/
theorem merge_self (h : Okm l st ad) : mergeS l st ad st ad = st ∧ mergeA l st ad st ad = ad ∧ mergeE l st ad st ad = 0 := by
  have h1 := merge_off h h (clash_off (h := fun j _ => (clashB_off _ _).2 (.inr (.inr rfl))))
  refine ⟨h1.1.trans ?_, h1.2.1.trans ?_, h1.2.2⟩
  · rw [mgS_flt, fltI_congr (fun x _ => Bool.or_self _), h.flt]
  · refine list_sat (by rw [mgA_len, h.al]) fun j hj => ?_
    rw [mgA_len] at hj
    rw [mgA_sat _ _ hj, mg1_self]
theorem sat_rep (n j : Nat) : sat (List.replicate n []) j = [] := by
  rw [sat, List.getD_eq_getElem?_getD, List.getElem?_replicate]; split <;> rfl
theorem okm_none (h : l.length ≤ 12) : Okm l [] (List.replicate (l.length + 1) []) :=
  ⟨h, List.length_replicate, fun s hs => by rw [(List.mem_replicate.1 hs).2]; exact Nat.zero_le _, fun i hi => absurd hi (Nat.not_lt_zero _), fun i hi => absurd hi (Nat.not_lt_zero _)⟩
theorem merge_none (h : Okm l st ad) : mergeS l st ad [] (List.replicate (l.length + 1) []) = st ∧ mergeA l st ad [] (List.replicate (l.length + 1) []) = ad ∧ mergeE l st ad [] (List.replicate (l.length + 1) []) = 0 := by
  have h1 := merge_off h (okm_none h.l12) (clash_off (h := fun j _ => (clashB_off _ _).2 (.inr (.inl (sat_rep _ _)))))
  refine ⟨h1.1.trans ?_, h1.2.1.trans ?_, h1.2.2⟩
  · rw [mgS_flt, fltI_congr (q := fun i => hasB st (i : Int)) (fun x _ => by rw [show hasB [] (x : Int) = false from rfl, Bool.or_false]), h.flt]
  · refine list_sat (by rw [mgA_len, h.al]) fun j hj => ?_
    rw [mgA_len] at hj
    rw [mgA_sat _ _ hj, sat_rep, mg1_nil]
theorem mgS_comm (st st2 : List Int) (n : Nat) : mgS st st2 n = mgS st2 st n := by
  rw [mgS_flt, mgS_flt]; exact fltI_congr fun x _ => Bool.or_comm _ _
theorem mgA_comm {n : Nat} (h : offTo ad ad2 n) : mgA ad ad2 n = mgA ad2 ad n := by
  refine list_sat (by rw [mgA_len, mgA_len]) fun j hj => ?_
  rw [mgA_len] at hj
  rw [mgA_sat _ _ hj, mgA_sat _ _ hj, mg1_comm (h j hj)]
theorem mgS_assoc (st st2 st3 : List Int) (n : Nat) : mgS (mgS st st2 n) st3 n = mgS st (mgS st2 st3 n) n := by
  rw [mgS_flt _ st3, mgS_flt st (mgS st2 st3 n)]
  exact fltI_congr fun x hx => by rw [mgS_has _ _ hx, mgS_has _ _ hx, Bool.or_assoc]
theorem mgA_assoc (ad ad2 ad3 : List (List UInt8)) (n : Nat) : mgA (mgA ad ad2 n) ad3 n = mgA ad (mgA ad2 ad3 n) n := by
  refine list_sat (by rw [mgA_len, mgA_len]) fun j hj => ?_
  rw [mgA_len] at hj
  rw [mgA_sat _ _ hj, mgA_sat _ _ hj, mgA_sat _ _ hj, mgA_sat _ _ hj, mg1_assoc]
/-- what two marks that contradict each other are merged to, and where they do -/
theorem mg_on (h : Okm l st ad) (h2 : Okm l st2 ad2) (hc : 0 ≤ clashN ad ad2) : ∃ k : Nat, k ≤ l.length ∧ clashV l st ad st2 ad2 = k ∧ clashE l st ad st2 ad2 = 0 ∧ sat ad k ≠ [] ∧ sat ad2 k ≠ [] ∧ sat ad k ≠ sat ad2 k := by
  rcases clashN_cases ad ad2 with ⟨h0, _⟩ | ⟨k, hk, h0, h1, _⟩
  · rw [h0] at hc; omega
  · rw [clashB_iff] at h1
    rw [h.al] at hk
    exact ⟨k, by omega, by rw [clashV, if_pos ⟨h.both h2, hc⟩, h0], by rw [clashE, h.both h2, if_neg (by simp), if_neg (by omega)], h1⟩
theorem mg_off (h : Okm l st ad) (h2 : Okm l st2 ad2) (hc : ¬ 0 ≤ clashN ad ad2) : clashV l st ad st2 ad2 = 0 ∧ clashE l st ad st2 ad2 = 5 :=
  ⟨by rw [clashV, if_neg (fun e => hc e.2)], by rw [clashE, h.both h2, if_neg (by simp), if_pos (by omega)]⟩
theorem mg_num (h : Okm l st ad) (h2 : Okm l st2 ad2) (hc : ¬ 0 ≤ clashN ad ad2) {A B C : Nat} (hA : (mgS st st2 l.length).length + cn (mgA ad ad2 (l.length + 1)) (l.length + 1) = A) (hB : st.length + cn ad (l.length + 1) = B) (hC : st2.length + cn ad2 (l.length + 1) = C) :
    B ≤ A ∧ C ≤ A ∧ A ≤ B + C := by
  have ho := off_of hc
  rw [h.al] at ho
  have h3 := cn_mg ho (l.length + 1) (Nat.le_refl _)
  have h4 := filter_or_len (fun i : Nat => hasB st (i : Int)) (fun i : Nat => hasB st2 (i : Int)) (List.range l.length)
  have h5 : st.length = ((List.range l.length).filter fun i : Nat => hasB st (i : Int)).length := by
    conv => lhs; rw [← h.flt]
    exact fltI_len _ _
  have h6 : st2.length = ((List.range l.length).filter fun i : Nat => hasB st2 (i : Int)).length := by
    conv => lhs; rw [← h2.flt]
    exact fltI_len _ _
  have h7 : (mgS st st2 l.length).length = ((List.range l.length).filter fun i : Nat => hasB st (i : Int) || hasB st2 (i : Int)).length := fltI_len _ _
  omega
/-- three of them -/
theorem mg_three (h : Okm l st ad) (h2 : Okm l st2 ad2) (hc : ¬ 0 ≤ clashN ad ad2) :
    (0 ≤ clashN ad2 ad3 → 0 ≤ clashN (mgA ad ad2 (l.length + 1)) ad3) ∧
    (¬ 0 ≤ clashN ad2 ad3 → clashN (mgA ad ad2 (l.length + 1)) ad3 = clashN ad (mgA ad2 ad3 (l.length + 1))) := by
  have ho := off_of hc
  rw [h.al] at ho
  refine ⟨fun hd => ?_, fun hd => ?_⟩
  · rcases clashN_cases ad2 ad3 with ⟨h0, _⟩ | ⟨k, hk, h0, h1, _⟩
    · rw [h0] at hd; omega
    · rw [h2.al] at hk
      rcases clashN_cases (mgA ad ad2 (l.length + 1)) ad3 with ⟨_, h5⟩ | ⟨m, _, h5, _⟩
      · have := h5 k (by rw [mgA_len]; exact hk)
        rw [mgA_sat _ _ hk, mg1_clash_on (ho k hk) h1] at this
        cases this
      · rw [h5]; omega
  · have hp := off_of hd
    rw [h2.al] at hp
    exact (clashN_same (by rw [mgA_len, h.al]) fun j hj => by
      rw [h.al] at hj
      rw [mgA_sat _ _ hj, mgA_sat _ _ hj, ← mg1_clash (ho j hj) (hp j hj)])
/-- either way the same -/
theorem mg_assoc (h : Okm l st ad) (h2 : Okm l st2 ad2) (h3 : Okm l st3 ad3) (hc : ¬ 0 ≤ clashN ad ad2) (hd : ¬ 0 ≤ clashN ad2 ad3) :
    mergeS l (mgS st st2 l.length) (mgA ad ad2 (l.length + 1)) st3 ad3 = mergeS l st ad (mgS st2 st3 l.length) (mgA ad2 ad3 (l.length + 1)) ∧
    mergeA l (mgS st st2 l.length) (mgA ad ad2 (l.length + 1)) st3 ad3 = mergeA l st ad (mgS st2 st3 l.length) (mgA ad2 ad3 (l.length + 1)) ∧
    mergeE l (mgS st st2 l.length) (mgA ad ad2 (l.length + 1)) st3 ad3 = mergeE l st ad (mgS st2 st3 l.length) (mgA ad2 ad3 (l.length + 1)) := by
  have he := (mg_three h h2 hc).2 hd
  by_cases hf : 0 ≤ clashN ad (mgA ad2 ad3 (l.length + 1))
  · have a := merge_on (okm_mg h h2) h3 (by rw [he]; exact hf)
    have b := merge_on h (okm_mg h2 h3) hf
    rw [a.1, a.2.1, a.2.2, b.1, b.2.1, b.2.2]; exact ⟨rfl, rfl, rfl⟩
  · have a := merge_off (okm_mg h h2) h3 (by rw [he]; exact hf)
    have b := merge_off h (okm_mg h2 h3) hf
    rw [a.1, a.2.1, a.2.2, b.1, b.2.1, b.2.2]
    exact ⟨mgS_assoc _ _ _ _, mgA_assoc _ _ _ _, rfl⟩
end
end Go.Proofs.Ytpkgfkeekcgkcaa
