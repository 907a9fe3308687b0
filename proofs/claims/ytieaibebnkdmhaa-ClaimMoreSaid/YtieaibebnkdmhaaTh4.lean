import Derived.Test.YtieaibebnkdmhaaTh3
import Derived.Test.YtieaibebnkdmhaaRefL
import Derived.Test.YtieaibebnkdmhaaWorse
/-  What the program says is what the definitions say. Plain lists. -/
namespace Go.Proofs.Ytieaibebnkdmhaa

theorem flatMap_congr {α β : Type} {f g : α → List β} : ∀ {l : List α}, (∀ x ∈ l, f x = g x) → l.flatMap f = l.flatMap g
  | [], _ => rfl
  | x :: l, h => by rw [List.flatMap_cons, List.flatMap_cons, h x (by simp), flatMap_congr fun y hy => h y (by simp [hy])]
theorem filter_flatMap {α β : Type} (p : β → Bool) (f : α → List β) : ∀ l : List α, (l.flatMap f).filter p = l.flatMap fun x => (f x).filter p
  | [] => rfl
  | x :: l => by rw [List.flatMap_cons, List.flatMap_cons, List.filter_append, filter_flatMap p f l]
theorem flatMap_if {α β : Type} (p : α → Bool) (f : α → β) (g : β → List β) : ∀ l : List α, (l.flatMap fun x => if p x then g (f x) else []) = ((l.filter p).map f).flatMap g
  | [] => rfl
  | x :: l => by
    rw [List.flatMap_cons, flatMap_if p f g l, List.filter_cons]
    by_cases h : p x = true
    · rw [if_pos h, if_pos h]; simp
    · rw [if_neg h, if_neg h]; simp
/-- all lists that go on from one, d places being left -/
def dfs (ns ss : List (List Int)) : Nat → List Int → List (List Int)
  | 0, m => [m]
  | d + 1, m => (exts ns ss m.length m (ss.length + 1)).flatMap (dfs ns ss d)
theorem lvl_dfs (ns ss : List (List Int)) : ∀ (d i : Nat), (lvl ns ss i).flatMap (dfs ns ss d) = lvl ns ss (i + d)
  | 0, i => by
    have : ∀ l : List (List Int), l.flatMap (dfs ns ss 0) = l := fun l => by
      induction l with
      | nil => rfl
      | cons x l ih => rw [List.flatMap_cons, ih]; rfl
    rw [this]; rfl
  | d + 1, i => by
    have e : (lvl ns ss i).flatMap (dfs ns ss (d + 1)) = (lvl ns ss (i + 1)).flatMap (dfs ns ss d) := by
      rw [lvl, List.flatMap_assoc]
      exact flatMap_congr fun m hm => by rw [dfs, lvl_mem_len hm]
    rw [e, lvl_dfs ns ss d (i + 1)]
    congr 1; omega
theorem okS_extB {ns ss : List (List Int)} (hv : vbook ns ss = 0) {m : List Int} {k : Nat} (hm : m.length < ns.length) (hk : k < ss.length + 1) : okS (tabOf ns ss) m ((k : Int) - 1) = extB ns ss m.length m ((k : Int) - 1) := by
  rw [okS, extB]
  by_cases h0 : (k : Int) - 1 < 0
  · simp [h0]
  · congr 1
    rw [inM_pairB hv hm (by omega) (by omega)]
    congr 1
    rw [Bool.eq_iff_iff, Bool.not_eq_true', ← Bool.not_eq_true, List.any_eq_true, decide_eq_true_iff]
    constructor
    · intro h
      rw [plc_neg (fun hin => h ⟨_, hin, (isN_iff _ _).2 rfl⟩)]; omega
    · rintro h ⟨x, hx, hi⟩
      rw [isN_iff] at hi
      subst hi
      have := plc_nonneg.2 hx
      omega
theorem allF_dfs {ns ss : List (List Int)} (hv : vbook ns ss = 0) : ∀ (d : Nat) (m : List Int), m.length + d = ns.length →
    allF (tabOf ns ss) ns.length ss.length d m = (dfs ns ss d m).filter fun m => !((prsTo (tabOf ns ss) ss.length ns.length).any fun p => unsM (tabOf ns ss) m p.1 p.2)
  | 0, m, h => by
    rw [allF, dfs]
    by_cases hu : (prsTo (tabOf ns ss) ss.length ns.length).any (fun p => unsM (tabOf ns ss) m p.1 p.2) = true
    · rw [if_pos hu]; simp [hu]
    · rw [if_neg hu]; simp [hu]
  | d + 1, m, h => by
    rw [allF, dfs, filter_flatMap]
    have e : ((List.range (ss.length + 1)).flatMap fun (k : Nat) => if okS (tabOf ns ss) m ((k : Int) - 1) then allF (tabOf ns ss) ns.length ss.length d (m ++ [(k : Int) - 1]) else []) =
        (List.range (ss.length + 1)).flatMap fun (k : Nat) => if extB ns ss m.length m ((k : Int) - 1) then ((dfs ns ss d (m ++ [(k : Int) - 1])).filter fun m => !((prsTo (tabOf ns ss) ss.length ns.length).any fun p => unsM (tabOf ns ss) m p.1 p.2)) else [] :=
      flatMap_congr fun k hk => by
        rw [okS_extB hv (by omega) (List.mem_range.1 hk), allF_dfs hv d _ (by simp; omega)]
    rw [e, exts]
    exact flatMap_if (fun (k : Nat) => extB ns ss m.length m ((k : Int) - 1)) (fun (k : Nat) => m ++ [(k : Int) - 1]) (fun m => (dfs ns ss d m).filter fun m => !((prsTo (tabOf ns ss) ss.length ns.length).any fun p => unsM (tabOf ns ss) m p.1 p.2)) _
theorem filter_congr' {α : Type} {p q : α → Bool} : ∀ {l : List α}, (∀ x ∈ l, p x = q x) → l.filter p = l.filter q
  | [], _ => rfl
  | x :: l, h => by rw [List.filter_cons, List.filter_cons, h x (by simp), filter_congr' fun y hy => h y (by simp [hy])]
theorem lvl_mat {ns ss : List (List Int)} {m : List Int} (h : m ∈ lvl ns ss ns.length) : Mat ns ss m := by
  obtain ⟨h1, h2, h3, h4⟩ := mem_lvl.1 h
  exact ⟨h1, fun n hn => (h2 n hn).1, fun n hn => (h2 n hn).2, fun n hn h0 => by simpa using (pairB_iff.1 (h3 n hn h0)).1, fun n hn h0 => (pairB_iff.1 (h3 n hn h0)).2, fun a b => h4 a b⟩
theorem all_eq {ns ss : List (List Int)} (hv : vbook ns ss = 0) : allF (tabOf ns ss) ns.length ss.length ns.length [] = allOf ns ss := by
  rw [allF_dfs hv _ _ (by simp), allOf]
  have := lvl_dfs ns ss ns.length 0
  rw [Nat.zero_add, lvl] at this
  rw [← this]
  simp only [List.flatMap_cons, List.flatMap_nil, List.append_nil]
  refine filter_congr' fun m hm => ?_
  have hm' : m ∈ lvl ns ss ns.length := by rw [← this]; simpa using hm
  rw [any_uns hv (lvl_mat hm'), isNone_not]
theorem AllR_eq (ns ss : List (List Int)) : AllR ns ss = rAll ns ss := by
  rw [AllR, rAll]
  by_cases h : vbook ns ss = 0
  · rw [if_pos h, if_pos h, all_eq h]
  · rw [if_neg h, if_neg h]
theorem KindR_eq (ns ss : List (List Int)) (n s : Int) : KindR ns ss n s = rKind ns ss n s := by
  rw [KindR, rKind]
  by_cases h : vbook ns ss = 0
  · rw [AllR_eq, rAll, if_pos h]
  · rw [if_pos h, if_pos h]

/-- which matching is the best one of the nations -/
theorem best_iff {ns ss : List (List Int)} {m : List Int} (hm : Sett ns ss m) : isBest ns ss false m = true ↔ ∀ l, Sett ns ss l → ∀ n s, rel l n s → ∃ t, rel m n t ∧ (sd ns ss).rn n t ≤ (sd ns ss).rn n s := by
  have key : isBest ns ss false m = true ↔ ∀ l, Sett ns ss l → ∀ n, n < ns.length → 0 ≤ nth l n → rth (row ns n) (nth l n) (nth m n) = false := by
    simp only [isBest, List.all_eq_true, okX, cond_false, okN, List.mem_range, mem_allOf, Bool.not_eq_true', Bool.and_eq_false_iff, decide_eq_false_iff_not]
    exact ⟨fun h l hl n hn h0 => (h l hl n hn).resolve_left (by omega), fun h l hl n hn => by
      by_cases h0 : 0 ≤ nth l n
      · exact .inr (h l hl n hn h0)
      · exact .inl h0⟩
  rw [key]
  constructor
  · intro h l hl n s hr
    have hln := hl.1.len
    have hn : n < ns.length := by rw [← hln]; exact hr.1
    have h1 := h l hl n hn (by rw [hr.2]; omega)
    have hin := hl.1.inN n hn (by rw [hr.2]; omega)
    rw [← Bool.not_eq_true, rth_iff] at h1
    have hlo := hm.1.lo n hn
    by_cases h0 : nth m n < 0
    · exact absurd ⟨hin, .inl h0⟩ h1
    · have hin2 := hm.1.inN n hn (by omega)
      refine ⟨(nth m n).toNat, ⟨by rw [hm.1.len]; exact hn, by omega⟩, ?_⟩
      show (plc (row ns n) (((nth m n).toNat : Nat) : Int)).toNat ≤ (plc (row ns n) (s : Int)).toNat
      rw [show (((nth m n).toNat : Nat) : Int) = nth m n by omega, ← hr.2]
      have : ¬ plc (row ns n) (nth l n) < plc (row ns n) (nth m n) := fun hlt => h1 ⟨hin, .inr ⟨hin2, hlt⟩⟩
      omega
  · intro h l hl n hn h0
    obtain ⟨t, ⟨_, ht⟩, hle⟩ := h l hl n (nth l n).toNat ⟨by rw [hl.1.len]; exact hn, by omega⟩
    rw [← Bool.not_eq_true, rth_iff]
    rintro ⟨h1, h2⟩
    have hle : (plc (row ns n) (t : Int)).toNat ≤ (plc (row ns n) (((nth l n).toNat : Nat) : Int)).toNat := hle
    rw [show (((nth l n).toNat : Nat) : Int) = nth l n by omega] at hle
    rw [ht] at h2
    rcases h2 with h2 | ⟨h2, h3⟩
    · omega
    · have := plc_nonneg.2 h1
      have := plc_nonneg.2 h2
      omega
theorem Sett.opt_ext {ns ss : List (List Int)} {m l : List Int} (hm : Sett ns ss m) (hl : Sett ns ss l) (h : ∀ n s, rel m n s ↔ rel l n s) : m = l :=
  rel_ext (by rw [hm.1.len, hl.1.len]) (fun n hn => hm.1.lo n (by rw [← hm.1.len]; exact hn)) (fun n hn => hl.1.lo n (by rw [← hl.1.len]; exact hn)) h
/-- two that are each as good as the other for all nations -/
theorem sett_anti {ns ss : List (List Int)} {m l : List Int} (hm : Sett ns ss m) (hl : Sett ns ss l) (h1 : ∀ n s, rel l n s → ∃ t, rel m n t ∧ (sd ns ss).rn n t ≤ (sd ns ss).rn n s)
    (h2 : ∀ n s, rel m n s → ∃ t, rel l n t ∧ (sd ns ss).rn n t ≤ (sd ns ss).rn n s) : m = l := by
  have key : ∀ {m l : List Int}, Sett ns ss m → Sett ns ss l → (∀ n s, rel l n s → ∃ t, rel m n t ∧ (sd ns ss).rn n t ≤ (sd ns ss).rn n s) →
    (∀ n s, rel m n s → ∃ t, rel l n t ∧ (sd ns ss).rn n t ≤ (sd ns ss).rn n s) → ∀ n s, rel m n s → rel l n s := fun {m l} hm hl h1 h2 n s h => by
      obtain ⟨t, ht, hle⟩ := h2 n s h
      obtain ⟨u, hu, hle2⟩ := h1 n t ht
      have := hm.stab.fn hu h
      subst this
      have := (sd ns ss).jn (hl.stab.acc ht) (hm.stab.acc h) (by omega)
      subst this
      exact ht
  exact hm.opt_ext hl fun n s => ⟨key hm hl h1 h2 n s, key hl hm h2 h1 n s⟩
theorem find_unique {l : List (List Int)} {p : List Int → Bool} {x : List Int} (hx : x ∈ l) (hp : p x = true) (hu : ∀ y ∈ l, p y = true → y = x) : l.find? p = some x := by
  cases h : l.find? p with
  | none => exact absurd hp (by have := List.find?_eq_none.1 h x hx; simpa using this)
  | some y => rw [hu y (List.mem_of_find?_eq_some h) (List.find?_some h)]
theorem first_eq {ns ss : List (List Int)} (hv : vbook ns ss = 0) : bestL ns ss false = claimsF (tabOf ns ss) ns := by
  have hs := claims_sett hv
  have ho := claims_opt hv
  have hb : isBest ns ss false (claimsF (tabOf ns ss) ns) = true := (best_iff hs).2 fun l hl n s h => ho.best hl.stab h
  rw [bestL, find_unique (mem_allOf.2 hs) hb fun y hy hy2 => ?_]
  · rfl
  · have hys := mem_allOf.1 hy
    exact sett_anti hys hs ((best_iff hys).1 hy2 _ hs) fun n s h => ho.best hys.stab h
theorem FirstR_eq (ns ss : List (List Int)) : FirstR ns ss = rBest ns ss false := by
  rw [FirstR, rBest]
  by_cases h : vbook ns ss = 0
  · rw [if_pos h, if_pos h, first_eq h]
  · rw [if_neg h, if_neg h]

/-- a matching as a list of the nations that stars have -/
def inv (m : List Int) (S : Nat) : List Int := (List.range S).map fun (s : Nat) => plc m s
theorem inv_len (m : List Int) (S : Nat) : (inv m S).length = S := by simp [inv]
theorem nth_inv (m : List Int) {S s : Nat} (h : s < S) : nth (inv m S) s = plc m s := by rw [nth_eq (by rw [inv_len]; exact h)]; simp [inv]
theorem inv_rel {m : List Int} (hinj : ∀ i j s, rel m i s → rel m j s → i = j) {S n s : Nat} (hS : s < S) : rel (inv m S) s n ↔ rel m n s := by
  constructor
  · rintro ⟨_, h⟩
    rw [nth_inv _ hS] at h
    exact rel_plc h
  · intro h
    exact ⟨by rw [inv_len]; exact hS, by rw [nth_inv _ hS, plc_rel hinj h]⟩
theorem vbook_swap (ns ss : List (List Int)) : vbook ns ss = 0 ↔ vbook ss ns = 0 := by
  have key : ∀ {ns ss : List (List Int)}, vbook ns ss = 0 → vbook ss ns = 0 := fun {ns ss} h => by
    rw [vbook] at h ⊢
    rw [Bool.or_comm, Bool.or_comm (ss.any (strayB ns.length)), Bool.or_comm (ss.any twc)]
    exact h
  exact ⟨key, key⟩
theorem sett_inv {ns ss : List (List Int)} {m : List Int} (h : Sett ns ss m) : Sett ss ns (inv m ss.length) := by
  have hst := h.stab
  refine of_stab (inv_len _ _) (fun s hs => ?_) ((stab_swap.1 hst).congr (M := sd ss ns) fun s n => ?_)
  · rw [nth_inv _ hs]
    by_cases hm : (s : Int) ∈ m
    · have := plc_nonneg.2 hm; omega
    · rw [plc_neg hm]; omega
  · by_cases hs : s < ss.length
    · exact (inv_rel (fun i j s a b => hst.fs a b) hs).symm
    · constructor
      · intro hr; exact absurd (hst.acc hr).2.1 hs
      · rintro ⟨hl, _⟩; rw [inv_len] at hl; exact absurd hl hs
theorem best_star {ns ss : List (List Int)} {m : List Int} (hm : Sett ns ss m) : isBest ns ss true m = true ↔ ∀ l, Sett ns ss l → ∀ s n, rel l n s → ∃ k, rel m k s ∧ (sd ns ss).rs s k ≤ (sd ns ss).rs s n := by
  have key : isBest ns ss true m = true ↔ ∀ l, Sett ns ss l → ∀ s : Nat, s < ss.length → 0 ≤ plc l s → rth (row ss s) (plc l s) (plc m s) = false := by
    simp only [isBest, List.all_eq_true, okX, cond_true, okS2, List.mem_range, mem_allOf, Bool.not_eq_true', Bool.and_eq_false_iff, decide_eq_false_iff_not]
    exact ⟨fun h l hl n hn h0 => (h l hl n hn).resolve_left (by omega), fun h l hl n hn => by
      by_cases h0 : 0 ≤ plc l n
      · exact .inr (h l hl n hn h0)
      · exact .inl h0⟩
  rw [key]
  constructor
  · intro h l hl s n hr
    have hacc := hl.stab.acc hr
    have hp := plc_rel (fun i j s a b => hl.stab.fs a b) hr
    have h1 := h l hl s hacc.2.1 (by omega)
    rw [← Bool.not_eq_true, rth_iff, hp] at h1
    by_cases h0 : (s : Int) ∈ m
    · obtain ⟨k, e, hk, e1, _⟩ := plc_mem h0
      have hrm : rel m k s := ⟨hk, e1⟩
      have hacm := hm.stab.acc hrm
      refine ⟨k, hrm, ?_⟩
      show (plc (row ss s) (k : Int)).toNat ≤ (plc (row ss s) (n : Int)).toNat
      rw [e] at h1
      have : ¬ plc (row ss s) (n : Int) < plc (row ss s) (k : Int) := fun hlt => h1 ⟨hacc.2.2.2, .inr ⟨hacm.2.2.2, hlt⟩⟩
      omega
    · rw [plc_neg h0] at h1
      exact absurd ⟨hacc.2.2.2, .inl (by omega)⟩ h1
  · intro h l hl s hs h0
    obtain ⟨n, hn⟩ : ∃ n : Nat, plc l s = n := ⟨(plc l s).toNat, by omega⟩
    obtain ⟨k, hk, hle⟩ := h l hl s n (rel_plc hn)
    have hle : (plc (row ss s) (k : Int)).toNat ≤ (plc (row ss s) (n : Int)).toNat := hle
    rw [← Bool.not_eq_true, rth_iff, hn, plc_rel (fun i j s a b => hm.stab.fs a b) hk]
    rintro ⟨h1, h2⟩
    rcases h2 with h2 | ⟨h2, h3⟩
    · omega
    · have := plc_nonneg.2 h1
      have := plc_nonneg.2 h2
      omega
/-- the stars' best matching -/
def lastF (ns ss : List (List Int)) : List Int := (List.range ns.length).map (fun (n : Nat) => idxF (isN (n : Int)) (claimsF (tabOf ss ns) ss) 0)
theorem lastF_inv (ns ss : List (List Int)) : lastF ns ss = inv (claimsF (tabOf ss ns) ss) ns.length := by
  simp only [lastF, inv, idx_plc]
theorem last_sett {ns ss : List (List Int)} (hv : vbook ns ss = 0) : Sett ns ss (lastF ns ss) := by
  rw [lastF_inv]
  exact sett_inv (claims_sett ((vbook_swap ns ss).1 hv))
theorem last_rel {ns ss : List (List Int)} (hv : vbook ns ss = 0) (n s : Nat) : rel (lastF ns ss) n s ↔ rel (claimsF (tabOf ss ns) ss) s n := by
  have hst := claims_stab ((vbook_swap ns ss).1 hv)
  rw [lastF_inv]
  by_cases hn : n < ns.length
  · exact inv_rel (fun i j s a b => hst.fs a b) hn
  · constructor
    · rintro ⟨hl, _⟩; rw [inv_len] at hl; exact absurd hl hn
    · intro hr; exact absurd (hst.acc hr).2.1 hn
/-- .. is the best for each star. -/
theorem last_best {ns ss : List (List Int)} (hv : vbook ns ss = 0) {P : Nat → Nat → Prop} (hP : SM.Stab (sd ns ss) P) {n s : Nat} (h : P n s) : ∃ k, rel (lastF ns ss) k s ∧ (sd ns ss).rs s k ≤ (sd ns ss).rs s n := by
  obtain ⟨k, hk, hle⟩ := (claims_opt ((vbook_swap ns ss).1 hv)).best (stab_swap.1 hP) h
  exact ⟨k, (last_rel hv k s).2 hk, hle⟩
theorem last_eq {ns ss : List (List Int)} (hv : vbook ns ss = 0) : bestL ns ss true = lastF ns ss := by
  have hs := last_sett hv
  have hb : isBest ns ss true (lastF ns ss) = true := (best_star hs).2 fun l hl s n h => last_best hv hl.stab h
  rw [bestL, find_unique (mem_allOf.2 hs) hb fun y hy hy2 => ?_]
  · rfl
  · have hys := mem_allOf.1 hy
    refine hys.opt_ext hs fun n s => ⟨fun h => ?_, fun h => ?_⟩
    · obtain ⟨k, hk, hle⟩ := last_best hv hys.stab h
      obtain ⟨j, hj, hle2⟩ := (best_star hys).1 hy2 _ hs s k hk
      have := hys.stab.fs hj h
      subst this
      have := (sd ns ss).js (hs.stab.acc hk) (hys.stab.acc h) (by omega)
      subst this
      exact hk
    · obtain ⟨k, hk, hle⟩ := (best_star hys).1 hy2 _ hs s n h
      obtain ⟨j, hj, hle2⟩ := last_best hv hys.stab hk
      have := hs.stab.fs hj h
      subst this
      have := (sd ns ss).js (hys.stab.acc hk) (hs.stab.acc h) (by omega)
      subst this
      exact hk
theorem LastR_eq (ns ss : List (List Int)) : LastR ns ss = rBest ns ss true := by
  rw [LastR, rBest]
  by_cases h : vbook ns ss = 0
  · rw [if_pos h, if_pos h, last_eq h]; rfl
  · rw [if_neg h, if_neg h]

/-- which of two stars is rather had: the program's word and that of the definitions -/
theorem rthM_rth {ns ss : List (List Int)} (hv : vbook ns ss = 0) {n : Nat} (hn : n < ns.length) {a b : Int} (ha : 0 ≤ a → pairB ns ss n a = true ∧ a < ss.length) (hb : 0 ≤ b → pairB ns ss n b = true ∧ b < ss.length) :
    rthM (tabOf ns ss) n a b = (decide (0 ≤ a) && rth (row ns n) a b) := by
  rw [Bool.eq_iff_iff, Bool.and_eq_true, rth_iff, decide_eq_true_iff, rthM]
  by_cases h : a < 0 ∨ b < 0
  · rw [if_pos h, decide_eq_true_iff]
    constructor
    · intro h0
      refine ⟨h0, by simpa using (pairB_iff.1 (ha h0).1).1, .inl (by omega)⟩
    · exact fun h => h.1
  · rw [if_neg h, decide_eq_true_iff]
    obtain ⟨pa, ha'⟩ := ha (by omega)
    obtain ⟨pb, hb'⟩ := hb (by omega)
    rw [(pS_eq hv pa hn (by omega) ha').1, (pS_eq hv pb hn (by omega) hb').1]
    have h1 := (pairB_iff.1 pa).1
    have h2 := (pairB_iff.1 pb).1
    rw [Int.toNat_natCast] at h1 h2
    constructor
    · intro hlt; exact ⟨by omega, h1, .inr ⟨h2, hlt⟩⟩
    · rintro ⟨_, _, h3 | ⟨_, h3⟩⟩
      · omega
      · exact h3
theorem put_eq {ns ss : List (List Int)} {m l : List Int} (hv : vsett ns ss m l = 0) (worse : Bool) :
    (List.range m.length).map (fun (i : Nat) => bif worse then bestW (tabOf ns ss) i (nth m i) (nth l i) else bestB (tabOf ns ss) i (nth m i) (nth l i)) = putL ns m l worse m.length := by
  obtain ⟨h0, hM, hL, u1, u2⟩ := vsett_mats hv
  refine List.map_congr_left fun i hi => ?_
  have hi : i < ns.length := by rw [← hM.len]; exact List.mem_range.1 hi
  have pm : 0 ≤ nth m i → pairB ns ss i (nth m i) = true ∧ nth m i < ss.length := fun h => ⟨pairB_iff.2 ⟨by simpa using hM.inN i hi h, hM.inS i hi h⟩, hM.hi i hi⟩
  have pl : 0 ≤ nth l i → pairB ns ss i (nth l i) = true ∧ nth l i < ss.length := fun h => ⟨pairB_iff.2 ⟨by simpa using hL.inN i hi h, hL.inS i hi h⟩, hL.hi i hi⟩
  rw [putF]
  cases worse with
  | false =>
    rw [cond_false, bestB, rthM_rth h0 hi pl pm]
    simp
  | true =>
    rw [cond_true, bestW, rthM_rth h0 hi pm pl]
    have r1 : 0 ≤ nth m i → ∃ t, rel l i t := fun h => (stab_of hM u1).rural (stab_of hL u2) (s := (nth m i).toNat) ⟨by rw [hM.len]; exact hi, by omega⟩
    by_cases hm0 : 0 ≤ nth m i
    · obtain ⟨t, _, ht⟩ := r1 hm0
      have e1 : decide (0 ≤ nth l i) = true := by rw [ht]; simp
      have a1 := (pairB_iff.1 (pm hm0).1).1
      have a2 := (pairB_iff.1 (pl (by omega)).1).1
      rw [Int.toNat_natCast] at a1 a2
      rw [decide_eq_true hm0, Bool.true_and, e1, Bool.true_and]
      by_cases hlt : plc (row ns i) (nth m i) < plc (row ns i) (nth l i)
      · have g1 : rth (row ns i) (nth m i) (nth l i) = true := rth_iff.2 ⟨a1, .inr ⟨a2, hlt⟩⟩
        have g2 : rth (row ns i) (nth l i) (nth m i) = false := by
          rw [← Bool.not_eq_true, rth_iff]; rintro ⟨_, h | ⟨_, h⟩⟩ <;> omega
        rw [g1, g2]; rfl
      · by_cases hgt : plc (row ns i) (nth l i) < plc (row ns i) (nth m i)
        · have g1 : rth (row ns i) (nth m i) (nth l i) = false := by
            rw [← Bool.not_eq_true, rth_iff]; rintro ⟨_, h | ⟨_, h⟩⟩ <;> omega
          have g2 : rth (row ns i) (nth l i) (nth m i) = true := rth_iff.2 ⟨a2, .inr ⟨a1, hgt⟩⟩
          rw [g1, g2]; rfl
        · have := plc_inj a1 a2 (by omega)
          rw [this]
          simp
    · have hl0 : ¬ 0 ≤ nth l i := fun h => by
        obtain ⟨t, _, ht⟩ := (stab_of hL u2).rural (stab_of hM u1) (n := i) (s := (nth l i).toNat) ⟨by rw [hL.len]; exact hi, by omega⟩
        omega
      rw [decide_eq_false hm0, decide_eq_false hl0]
      simp
theorem BetterR_eq (ns ss : List (List Int)) (m l : List Int) : BetterR ns ss m l = rBW ns ss m l false := by
  rw [BetterR, rBW]
  by_cases h : vsett ns ss m l = 0
  · rw [if_pos h, if_pos h]; exact put_eq h false
  · rw [if_neg h, if_neg h]
theorem WorseR_eq (ns ss : List (List Int)) (m l : List Int) : WorseR ns ss m l = rBW ns ss m l true := by
  rw [WorseR, rBW]
  by_cases h : vsett ns ss m l = 0
  · rw [if_pos h, if_pos h]; exact put_eq h true
  · rw [if_neg h, if_neg h]
end Go.Proofs.Ytieaibebnkdmhaa
