import Derived.Test.YtieaibebnkdmhaaCourt3
/-  What the table of a valid book holds: plain lists, no program in sight. -/
namespace Go.Proofs.Ytieaibebnkdmhaa

theorem isN_iff (n x : Int) : isN n x = true ↔ n = x := by simp [isN]
theorem idxF_plcF (n : Int) : ∀ (xs : List Int) (k : Nat), idxF (isN n) xs k = plcF n xs k
  | [], _ => rfl
  | x :: xs, k => by
    rw [idxF, plcF, idxF_plcF n xs (k + 1)]
    by_cases h : n = x
    · subst h; simp [isN]
    · rw [if_neg (by rw [isN_iff]; exact h), if_neg (by simpa using Ne.symm h)]
theorem idx_plc (n : Int) (xs : List Int) : idxF (isN n) xs 0 = plc xs n := idxF_plcF n xs 0

theorem plcF_succ (n : Int) : ∀ (xs : List Int) (k j : Nat), plcF n xs (k + j) = if n ∈ xs then plcF n xs k + j else -1
  | [], _, _ => by simp [plcF]
  | x :: xs, k, j => by
    rw [plcF, plcF]
    by_cases h : x = n
    · subst h; simp
    · have e : (x == n) = false := by simpa using h
      simp only [e, Bool.false_eq_true, if_false]
      rw [show k + j + 1 = (k + 1) + j by omega, plcF_succ n xs (k + 1) j]
      simp [Ne.symm h]
theorem plcF_neg (n : Int) : ∀ (xs : List Int) (k : Nat), n ∉ xs → plcF n xs k = -1
  | [], _, _ => rfl
  | x :: xs, k, h => by
    rw [plcF, if_neg (by simp at h; simpa using fun e => h.1 e.symm)]
    exact plcF_neg n xs _ (by simp at h; exact h.2)
theorem plcF_mem (n : Int) : ∀ (xs : List Int) (k : Nat), n ∈ xs → ∃ j, plcF n xs k = ((k + j : Nat) : Int) ∧ j < xs.length ∧ nth xs j = n ∧ ∀ i, i < j → nth xs i ≠ n
  | [], _, h => by cases h
  | x :: xs, k, h => by
    rw [plcF]
    by_cases e : x = n
    · subst e; exact ⟨0, by simp, by simp, by simp [nth], fun i hi => by omega⟩
    · rw [if_neg (by simpa using e)]
      obtain ⟨j, h1, h2, h3, h4⟩ := plcF_mem n xs (k + 1) (by simpa [Ne.symm e] using h)
      refine ⟨j + 1, by rw [h1]; congr 1; omega, by simpa using h2, by simpa [nth] using h3, fun i hi => ?_⟩
      match i with
      | 0 => simpa [nth] using e
      | i + 1 => simpa [nth] using h4 i (by omega)
theorem plc_mem {n : Int} {xs : List Int} (h : n ∈ xs) : ∃ j : Nat, plc xs n = j ∧ j < xs.length ∧ nth xs j = n ∧ ∀ i, i < j → nth xs i ≠ n := by
  obtain ⟨j, h1, h2⟩ := plcF_mem n xs 0 h
  exact ⟨j, by rw [plc, h1]; simp, h2⟩
theorem plc_neg {n : Int} {xs : List Int} (h : n ∉ xs) : plc xs n = -1 := plcF_neg n xs 0 h
theorem plc_nonneg {n : Int} {xs : List Int} : 0 ≤ plc xs n ↔ n ∈ xs := by
  by_cases h : n ∈ xs
  · obtain ⟨j, e, _⟩ := plc_mem h; simp [h, e]
  · simp [h, plc_neg h]
theorem nth_mem {xs : List Int} {k : Nat} (h : k < xs.length) : nth xs k ∈ xs := by rw [nth_eq h]; exact List.getElem_mem h
theorem mem_nth {xs : List Int} {n : Int} (h : n ∈ xs) : ∃ k, k < xs.length ∧ nth xs k = n := by
  obtain ⟨j, _, h1, h2, _⟩ := plc_mem h; exact ⟨j, h1, h2⟩
theorem nodup_nth {xs : List Int} (h : xs.Nodup) {i j : Nat} (hi : i < xs.length) (hj : j < xs.length) (e : nth xs i = nth xs j) : i = j := by
  rw [nth_eq hi, nth_eq hj] at e; exact Tb.nodup_inj h hi hj e
theorem plc_nth {xs : List Int} (h : xs.Nodup) {k : Nat} (hk : k < xs.length) : plc xs (nth xs k) = k := by
  obtain ⟨j, e, hj, h2, _⟩ := plc_mem (nth_mem hk)
  rw [e, nodup_nth h hj hk h2]
theorem plc_inj {xs : List Int} {a b : Int} (ha : a ∈ xs) (hb : b ∈ xs) (e : plc xs a = plc xs b) : a = b := by
  obtain ⟨j, e1, _, h1, _⟩ := plc_mem ha
  obtain ⟨k, e2, _, h2, _⟩ := plc_mem hb
  have : j = k := by omega
  subst this
  exact h1.symm.trans h2
theorem plc_cons {x : Int} {l : List Int} {b : Int} (h : b ∈ l) (hx : x ≠ b) : plc (x :: l) b = plc l b + 1 := by
  rw [plc, plcF, if_neg (by simpa using hx), plcF_succ b l 0 1, if_pos h]; rfl
theorem plc_head (x : Int) (l : List Int) : plc (x :: l) x = 0 := by simp [plc, plcF]
theorem plc_lt {n : Int} {xs : List Int} : plc xs n < xs.length := by
  by_cases h : n ∈ xs
  · obtain ⟨j, e, hj, _⟩ := plc_mem h; omega
  · rw [plc_neg h]; omega

theorem twcF_iff (xs : List Int) : ∀ (k : Nat), k ≤ xs.length → (twcF xs (xs.drop k) k = true ↔ ∃ j, k ≤ j ∧ j < xs.length ∧ ∃ i, i < j ∧ nth xs i = nth xs j) := by
  intro k
  induction hm : xs.length - k generalizing k with
  | zero =>
    intro hk
    rw [twcF_end xs k (by omega)]
    simp only [Bool.false_eq_true, false_iff]
    rintro ⟨j, h1, h2, _⟩; omega
  | succ d ih =>
    intro hk
    rw [twcF_at xs k (by omega), Bool.or_eq_true, ih (k + 1) (by omega) (by omega), List.any_eq_true]
    constructor
    · rintro (⟨x, hx, he⟩ | ⟨j, h1, h2⟩)
      · rw [isN_iff] at he
        obtain ⟨i, hi, e⟩ := List.mem_iff_getElem.1 hx
        rw [List.length_take] at hi
        refine ⟨k, Nat.le_refl _, by omega, i, by omega, ?_⟩
        rw [List.getElem_take] at e
        rw [nth_eq (by omega), e, he]
      · exact ⟨j, by omega, h2⟩
    · rintro ⟨j, h1, h2, i, hi, e⟩
      by_cases hj : j = k
      · subst hj
        refine .inl ⟨nth xs i, ?_, by rw [isN_iff]; exact e.symm⟩
        rw [List.mem_iff_getElem]
        exact ⟨i, by rw [List.length_take]; omega, by rw [List.getElem_take, nth_eq (by omega)]⟩
      · exact .inr ⟨j, by omega, h2, i, hi, e⟩
theorem twc_iff (xs : List Int) : twc xs = true ↔ ∃ i j, i < j ∧ j < xs.length ∧ nth xs i = nth xs j := by
  have := twcF_iff xs 0 (Nat.zero_le _)
  rw [List.drop_zero] at this
  rw [twc, this]
  constructor
  · rintro ⟨j, _, h, i, hi, e⟩; exact ⟨i, j, hi, h, e⟩
  · rintro ⟨i, j, hi, h, e⟩; exact ⟨j, Nat.zero_le _, h, i, hi, e⟩
theorem twc_nodup (xs : List Int) : twc xs = false ↔ xs.Nodup := by
  rw [← Bool.not_eq_true, twc_iff]
  constructor
  · intro h
    rw [List.nodup_iff_pairwise_ne, List.pairwise_iff_getElem]
    intro i j hi hj hij e
    exact h ⟨i, j, hij, hj, by rw [nth_eq hi, nth_eq hj]; exact e⟩
  · rintro h ⟨i, j, hij, hj, e⟩
    have := nodup_nth h (by omega) hj e
    omega

theorem get_in1 (n : Int) : ∀ (l : List Int) (i : Nat) (M : PM) (a b : Int), l.Nodup → Tb.get (in1 n l i M) (a, b) = if a = n ∧ b ∈ l then some ((i : Int) + plc l b, -1) else Tb.get M (a, b)
  | [], _, _, _, _, _ => by simp [in1]
  | s :: l, i, M, a, b, hnd => by
    obtain ⟨hs, hl⟩ := List.nodup_cons.1 hnd
    rw [in1, get_in1 n l (i + 1) _ a b hl, Tb.get_put]
    by_cases ha : a = n
    · subst ha
      by_cases hb : b ∈ l
      · have hne : s ≠ b := fun e => hs (e ▸ hb)
        rw [if_pos ⟨rfl, hb⟩, if_pos ⟨rfl, by simp [hb]⟩, plc_cons hb hne]
        congr 2; push_cast; omega
      · by_cases e : b = s
        · subst e
          rw [if_neg (by simp [hb]), if_pos rfl, if_pos ⟨rfl, by simp⟩, plc_head]
          simp
        · rw [if_neg (by simp [hb]), if_neg (by simpa using e), if_neg (by simp [hb, e])]
    · rw [if_neg (by simp [ha]), if_neg (by simp [ha]), if_neg (by simp [ha])]

theorem get_out1 : ∀ (ns : List (List Int)) (n : Nat) (M : PM) (a b : Int), (∀ l ∈ ns, l.Nodup) →
    Tb.get (out1 ns n M) (a, b) = if (n : Int) ≤ a ∧ a < n + ns.length ∧ b ∈ row ns (a - n).toNat then some (plc (row ns (a - n).toNat) b, -1) else Tb.get M (a, b)
  | [], n, M, a, b, _ => by
    rw [out1, if_neg]
    rintro ⟨h1, h2, _⟩
    simp at h2; omega
  | l :: r, n, M, a, b, hnd => by
    rw [out1, get_out1 r (n + 1) _ a b (fun l hl => hnd l (by simp [hl])), get_in1 n l 0 M a b (hnd l (by simp))]
    by_cases ha : a = n
    · subst ha
      rw [if_neg (by push_cast; omega)]
      have : (n : Int) < n + ((r.length : Int) + 1) := by omega
      simp [row, this]
    · by_cases h1 : (n : Int) + 1 ≤ a
      · have e : (a - (n : Int)).toNat = (a - ((n + 1 : Nat) : Int)).toNat + 1 := by push_cast; omega
        have hif : ¬ (a = (n : Int) ∧ b ∈ l) := fun h => ha h.1
        simp only [hif, if_false, e, row, List.getD_cons_succ, List.length_cons]
        congr 1
        simp only [eq_iff_iff]
        push_cast
        constructor
        · rintro ⟨h1, h2, h3⟩; exact ⟨by omega, by omega, h3⟩
        · rintro ⟨h1, h2, h3⟩; exact ⟨by omega, by omega, h3⟩
      · rw [if_neg (by push_cast; omega), if_neg (by simp [ha]), if_neg (by push_cast; omega)]

theorem get_in2 (s : Int) : ∀ (l : List Int) (i : Nat) (M : PM) (a b : Int), l.Nodup → Tb.get (in2 s l i M) (a, b) = if b = s ∧ a ∈ l then (Tb.get M (a, b)).map (fun p => (p.1, (i : Int) + plc l a)) else Tb.get M (a, b)
  | [], _, _, _, _, _ => by simp [in2]
  | n :: l, i, M, a, b, hnd => by
    obtain ⟨hs, hl⟩ := List.nodup_cons.1 hnd
    obtain ⟨X, hX, hstep⟩ : ∃ X, in2 s (n :: l) i M = in2 s l (i + 1) X ∧ ∀ a b, Tb.get X (a, b) = if a = n ∧ b = s then (Tb.get M (a, b)).map (fun p => (p.1, (i : Int))) else Tb.get M (a, b) := by
      cases hg : Tb.get M (n, s) with
      | none =>
        refine ⟨M, by simp only [in2, hg], fun a b => ?_⟩
        by_cases e : a = n ∧ b = s
        · obtain ⟨rfl, rfl⟩ := e; simp [hg]
        · rw [if_neg e]
      | some p =>
        refine ⟨Tb.put M (n, s) (p.1, (i : Int)), by simp only [in2, hg], fun a b => ?_⟩
        rw [Tb.get_put]
        by_cases e : a = n ∧ b = s
        · obtain ⟨rfl, rfl⟩ := e; simp [hg]
        · rw [if_neg e, if_neg (by simpa using e)]
    rw [hX, get_in2 s l (i + 1) _ a b hl, hstep]
    by_cases hb : b = s
    · subst hb
      by_cases ha : a ∈ l
      · have hne : n ≠ a := fun e => hs (e ▸ ha)
        have hin : ¬ (a = n) := fun h => hne h.symm
        simp only [hin, false_and, if_false, true_and, ha, if_true, List.mem_cons, or_true]
        rw [plc_cons ha hne]
        congr 1; funext p; congr 1; push_cast; omega
      · by_cases e : a = n
        · subst e
          rw [if_neg (by simp [ha]), if_pos ⟨rfl, rfl⟩, if_pos ⟨rfl, by simp⟩, plc_head]; simp
        · rw [if_neg (by simp [ha]), if_neg (by simp [e]), if_neg (by simp [ha, e])]
    · rw [if_neg (by simp [hb]), if_neg (by simp [hb]), if_neg (by simp [hb])]

theorem get_out2 : ∀ (ss : List (List Int)) (n : Nat) (M : PM) (a b : Int), (∀ l ∈ ss, l.Nodup) →
    Tb.get (out2 ss n M) (a, b) = if (n : Int) ≤ b ∧ b < n + ss.length ∧ a ∈ row ss (b - n).toNat then (Tb.get M (a, b)).map (fun p => (p.1, plc (row ss (b - n).toNat) a)) else Tb.get M (a, b)
  | [], n, M, a, b, _ => by
    rw [out2, if_neg]
    rintro ⟨h1, h2, _⟩
    simp at h2; omega
  | l :: r, n, M, a, b, hnd => by
    rw [out2, get_out2 r (n + 1) _ a b (fun l hl => hnd l (by simp [hl])), get_in2 n l 0 M a b (hnd l (by simp))]
    by_cases ha : b = n
    · subst ha
      rw [if_neg (by push_cast; omega)]
      have : (n : Int) < n + ((r.length : Int) + 1) := by omega
      simp [row, this]
    · by_cases h1 : (n : Int) + 1 ≤ b
      · have e : (b - (n : Int)).toNat = (b - ((n + 1 : Nat) : Int)).toNat + 1 := by push_cast; omega
        have hif : ¬ (b = (n : Int) ∧ a ∈ l) := fun h => ha h.1
        simp only [hif, if_false, e, row, List.getD_cons_succ, List.length_cons]
        congr 1
        simp only [eq_iff_iff]
        push_cast
        constructor
        · rintro ⟨h1, h2, h3⟩; exact ⟨by omega, by omega, h3⟩
        · rintro ⟨h1, h2, h3⟩; exact ⟨by omega, by omega, h3⟩
      · rw [if_neg (by push_cast; omega), if_neg (by simp [ha]), if_neg (by push_cast; omega)]

theorem keys_in1 (n : Int) : ∀ (l : List Int) (i : Nat) (M : PM), (M.map (·.1)).Nodup → ((in1 n l i M).map (·.1)).Nodup
  | [], _, _, h => h
  | _ :: l, i, M, h => keys_in1 n l (i + 1) _ (Tb.put_keys M _ _ h)
theorem keys_out1 : ∀ (ns : List (List Int)) (n : Nat) (M : PM), (M.map (·.1)).Nodup → ((out1 ns n M).map (·.1)).Nodup
  | [], _, _, h => h
  | l :: r, n, M, h => keys_out1 r (n + 1) _ (keys_in1 n l 0 M h)
theorem keys_in2 (s : Int) : ∀ (l : List Int) (i : Nat) (M : PM), (M.map (·.1)).Nodup → ((in2 s l i M).map (·.1)).Nodup
  | [], _, _, h => h
  | n :: l, i, M, h => by
    rw [in2]
    refine keys_in2 s l (i + 1) _ ?_
    cases Tb.get M (n, s) with
    | none => exact h
    | some p => exact Tb.put_keys M _ _ h
theorem keys_out2 : ∀ (ss : List (List Int)) (n : Nat) (M : PM), (M.map (·.1)).Nodup → ((out2 ss n M).map (·.1)).Nodup
  | [], _, _, h => h
  | l :: r, n, M, h => keys_out2 r (n + 1) _ (keys_in2 n l 0 M h)

theorem get_filter (M : PM) (p : Int × Int → Bool) (hn : (M.map (·.1)).Nodup) (k : PK) : Tb.get (M.filter (fun q => p q.2)) k = (Tb.get M k).filter p := by
  induction M with
  | nil => rfl
  | cons q r ih =>
    rw [List.map_cons, List.nodup_cons] at hn
    obtain ⟨h1, h2⟩ := hn
    have hr : q.1 = k → Tb.get r k = none := by
      rintro rfl
      simp only [Tb.get, Option.map_eq_none_iff, List.find?_eq_none, decide_eq_true_eq]
      intro x hx e
      exact h1 (List.mem_map.2 ⟨x, hx, e⟩)
    have ih := ih h2
    by_cases e : q.1 = k
    · by_cases hp : p q.2 = true
      · simp [Tb.get, hp, e, Option.filter]
      · rw [List.filter_cons, if_neg hp, ih, hr e]
        simp [Tb.get, e, Option.filter, hp]
    · have : Tb.get (q :: r) k = Tb.get r k := by simp [Tb.get, e]
      rw [this, ← ih]
      by_cases hp : p q.2 = true
      · rw [List.filter_cons, if_pos hp]; simp [Tb.get, e]
      · rw [List.filter_cons, if_neg hp]

/-- the table of a book whose lists have no number twice -/
theorem tab_get {ns ss : List (List Int)} (hn : ∀ l ∈ ns, l.Nodup) (hs : ∀ l ∈ ss, l.Nodup) (a b : Int) :
    Tb.get (tabOf ns ss) (a, b) = if 0 ≤ a ∧ a < ns.length ∧ 0 ≤ b ∧ b < ss.length ∧ b ∈ row ns a.toNat ∧ a ∈ row ss b.toNat then some (plc (row ns a.toNat) b, plc (row ss b.toNat) a) else none := by
  have h1 := get_out1 ns 0 [] a b hn
  have h2 := get_out2 ss 0 (out1 ns 0 []) a b hs
  have hf := get_filter (out2 ss 0 (out1 ns 0 [])) (fun v => decide (0 ≤ v.2)) (keys_out2 ss 0 _ (keys_out1 ns 0 [] (by simp))) (a, b)
  refine hf.trans ?_
  rw [h2, h1]
  simp only [Int.natCast_zero, Int.sub_zero, Int.zero_add]
  have e0 : Tb.get ([] : PM) (a, b) = none := rfl
  rw [e0]
  by_cases c1 : 0 ≤ a ∧ a < ns.length ∧ b ∈ row ns a.toNat
  · rw [if_pos c1]
    by_cases c2 : 0 ≤ b ∧ b < ss.length ∧ a ∈ row ss b.toNat
    · rw [if_pos c2, if_pos ⟨c1.1, c1.2.1, c2.1, c2.2.1, c1.2.2, c2.2.2⟩]
      have := plc_nonneg.2 c2.2.2
      simp [Option.filter, this]
    · rw [if_neg c2, if_neg (fun h => c2 ⟨h.2.2.1, h.2.2.2.1, h.2.2.2.2.2⟩)]
      simp [Option.filter]
  · rw [if_neg c1, if_neg (show ¬ (0 ≤ a ∧ a < ns.length ∧ 0 ≤ b ∧ b < ss.length ∧ b ∈ row ns a.toNat ∧ a ∈ row ss b.toNat) from fun h => c1 ⟨h.1, h.2.1, h.2.2.2.2.1⟩)]
    simp

theorem inM_iff {ns ss : List (List Int)} (hn : ∀ l ∈ ns, l.Nodup) (hs : ∀ l ∈ ss, l.Nodup) (a b : Int) :
    inM (tabOf ns ss) a b = true ↔ 0 ≤ a ∧ a < ns.length ∧ 0 ≤ b ∧ b < ss.length ∧ b ∈ row ns a.toNat ∧ a ∈ row ss b.toNat := by
  rw [inM, tab_get hn hs]
  split <;> simp_all
theorem vbook_valid {ns ss : List (List Int)} (h : vbook ns ss = 0) :
    1 ≤ ns.length ∧ ns.length ≤ 6 ∧ 1 ≤ ss.length ∧ ss.length ≤ 6 ∧ (∀ l ∈ ns, l.Nodup) ∧ (∀ l ∈ ss, l.Nodup) ∧ (∀ l ∈ ns, ∀ x ∈ l, 0 ≤ x ∧ x < ss.length) ∧ (∀ l ∈ ss, ∀ x ∈ l, 0 ≤ x ∧ x < ns.length) := by
  unfold vbook at h
  split at h
  · cases h
  rename_i h1
  split at h
  · cases h
  rename_i h2
  split at h
  · cases h
  rename_i h3
  simp only [List.any_cons, List.any_nil, Bool.or_false, outB, Bool.or_eq_true, decide_eq_true_eq, not_or, Int.not_lt] at h1
  simp only [Bool.or_eq_true, List.any_eq_true, not_or, not_exists, not_and, Bool.not_eq_true, strayB] at h2 h3
  refine ⟨by omega, by omega, by omega, by omega, fun l hl => (twc_nodup l).1 (h3.1 l hl), fun l hl => (twc_nodup l).1 (h3.2 l hl), fun l hl x hx => ?_, fun l hl x hx => ?_⟩
  · have := h2.1 l hl x hx
    simp [outB] at this
    omega
  · have := h2.2 l hl x hx
    simp [outB] at this
    omega
end Go.Proofs.Ytieaibebnkdmhaa
