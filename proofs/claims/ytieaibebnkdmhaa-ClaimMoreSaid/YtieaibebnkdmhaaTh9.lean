import Derived.Test.YtieaibebnkdmhaaTh6
import Derived.Test.YtieaibebnkdmhaaTab
/-  Books that are altered: sides exchanged, lists cut, one list replaced, one nation more. Plain lists. -/
namespace Go.Proofs.Ytieaibebnkdmhaa

theorem vbook_of {ns ss : List (List Int)} (h1 : 1 ≤ ns.length) (h2 : ns.length ≤ 6) (h3 : 1 ≤ ss.length) (h4 : ss.length ≤ 6) (hn : ∀ l ∈ ns, l.Nodup) (hs : ∀ l ∈ ss, l.Nodup)
    (rn : ∀ l ∈ ns, ∀ x ∈ l, 0 ≤ x ∧ x < ss.length) (rs : ∀ l ∈ ss, ∀ x ∈ l, 0 ≤ x ∧ x < ns.length) : vbook ns ss = 0 := by
  rw [vbook_few h1 h2 h3 h4, any_twp, any_twp]
  have g1 : ns.any (strayB ss.length) = false := List.any_eq_false.2 fun l hl => by
    rw [strayB, Bool.not_eq_true, List.any_eq_false]; intro x hx; have := rn l hl x hx; simp [outB]; omega
  have g2 : ss.any (strayB ns.length) = false := List.any_eq_false.2 fun l hl => by
    rw [strayB, Bool.not_eq_true, List.any_eq_false]; intro x hx; have := rs l hl x hx; simp [outB]; omega
  have g3 : ns.any twc = false := List.any_eq_false.2 fun l hl => by rw [(twc_nodup l).2 (hn l hl)]; simp
  have g4 : ss.any twc = false := List.any_eq_false.2 fun l hl => by rw [(twc_nodup l).2 (hs l hl)]; simp
  rw [g1, g2, g3, g4]; rfl

/- the sides exchanged -/
theorem inv_inj {ns ss : List (List Int)} {m l : List Int} (hm : Sett ns ss m) (hl : Sett ns ss l) (e : inv m ss.length = inv l ss.length) : m = l :=
  hm.opt_ext hl fun n s => by
    have fm := fun i j s (a : rel m i s) (b : rel m j s) => hm.stab.fs a b
    have fl := fun i j s (a : rel l i s) (b : rel l j s) => hl.stab.fs a b
    constructor
    · intro h
      have hs := (hm.stab.acc h).2.1
      exact (inv_rel fl hs).1 (e ▸ (inv_rel fm hs).2 h)
    · intro h
      have hs := (hl.stab.acc h).2.1
      exact (inv_rel fm hs).1 (e ▸ (inv_rel fl hs).2 h)
theorem turned_le (ns ss : List (List Int)) : (allOf ns ss).length ≤ (allOf ss ns).length := by
  have h := SM.nodup_len (l1 := (allOf ns ss).map fun m => inv m ss.length) (l2 := allOf ss ns)
    (SM.nodup_map (allOf_nodup ns ss) fun x hx y hy e => inv_inj (mem_allOf.1 hx) (mem_allOf.1 hy) e)
    (fun x hx => by obtain ⟨m, hm, rfl⟩ := List.mem_map.1 hx; exact mem_allOf.2 (sett_inv (mem_allOf.1 hm)))
  rwa [List.length_map] at h
theorem turned_len (ns ss : List (List Int)) : (allOf ns ss).length = (allOf ss ns).length := Nat.le_antisymm (turned_le ns ss) (turned_le ss ns)
theorem turned_last {ns ss : List (List Int)} (hv : vbook ns ss = 0) : inv (lastF ns ss) ss.length = claimsF (tabOf ss ns) ss := by
  have hL := last_sett hv
  have hC := claims_sett ((vbook_swap ns ss).1 hv)
  refine (sett_inv hL).opt_ext hC fun s n => ?_
  rw [← last_rel hv]
  by_cases hs : s < ss.length
  · exact inv_rel (fun i j s a b => hL.stab.fs a b) hs
  · constructor
    · rintro ⟨h, _⟩; rw [inv_len] at h; exact absurd h hs
    · intro h; exact absurd (hL.stab.acc h).2.1 hs

/- lists that are cut -/
theorem plc_is {l : List Int} {a : Int} {j : Nat} (h : j < l.length) (e : nth l j = a) (hf : ∀ i, i < j → nth l i ≠ a) : plc l a = j := by
  obtain ⟨p, e1, h1, h2, h3⟩ := plc_mem (n := a) (xs := l) (e ▸ nth_mem h)
  rw [e1]
  by_cases hlt : p < j
  · exact absurd h2 (hf p hlt)
  · by_cases hgt : j < p
    · exact absurd e (h3 j hgt)
    · omega
theorem nth_take (l : List Int) {k i : Nat} (h : i < k) : nth (l.take k) i = nth l i := by simp [nth, h]
theorem mem_take' {l : List Int} {a : Int} {k : Nat} : a ∈ l.take k ↔ a ∈ l ∧ plc l a < k := by
  constructor
  · intro h
    refine ⟨List.mem_of_mem_take h, ?_⟩
    obtain ⟨j, e, h1, h2, h3⟩ := plc_mem h
    rw [List.length_take] at h1
    rw [plc_is (l := l) (a := a) (j := j) (by omega) (by rw [← nth_take l (k := k) (by omega)]; exact h2) fun i hi => by rw [← nth_take l (k := k) (by omega)]; exact h3 i hi]
    omega
  · rintro ⟨h, hlt⟩
    obtain ⟨j, e, h1, h2, h3⟩ := plc_mem h
    have : nth (l.take k) j = a := by rw [nth_take l (by omega)]; exact h2
    rw [← this]
    exact nth_mem (by rw [List.length_take]; omega)
theorem plc_take {l : List Int} {a : Int} {k : Nat} (h : a ∈ l.take k) : plc (l.take k) a = plc l a := by
  obtain ⟨hm, hlt⟩ := mem_take'.1 h
  obtain ⟨j, e, h1, h2, h3⟩ := plc_mem hm
  rw [e]
  exact plc_is (by rw [List.length_take]; omega) (by rw [nth_take l (by omega)]; exact h2) fun i hi => by rw [nth_take l (by omega)]; exact h3 i hi
/-- a list without what comes behind one of its stars -/
def cutR (r : List Int) (x : Int) : List Int := if 0 ≤ plc r x then r.take ((plc r x).toNat + 1) else r
theorem mem_cutR {r : List Int} {x a : Int} : a ∈ cutR r x ↔ a ∈ r ∧ (x ∈ r → plc r a ≤ plc r x) := by
  rw [cutR]
  by_cases h : 0 ≤ plc r x
  · rw [if_pos h, mem_take']
    refine and_congr_right fun _ => ⟨fun h2 _ => by omega, fun h2 => ?_⟩
    have := h2 (plc_nonneg.1 h)
    omega
  · rw [if_neg h]
    exact ⟨fun h2 => ⟨h2, fun h3 => absurd (plc_nonneg.2 h3) h⟩, fun h2 => h2.1⟩
theorem plc_cutR {r : List Int} {x a : Int} (h : a ∈ cutR r x) : plc (cutR r x) a = plc r a := by
  rw [cutR] at h ⊢
  by_cases h0 : 0 ≤ plc r x
  · rw [if_pos h0] at h ⊢; exact plc_take h
  · rw [if_neg h0]
theorem cutR_nodup {r : List Int} (h : r.Nodup) (x : Int) : (cutR r x).Nodup := by
  rw [cutR]; split
  · exact List.Nodup.sublist (List.take_sublist _ _) h
  · exact h
def cutL (ns : List (List Int)) (l : List Int) (k : Nat) : List (List Int) := (List.range k).map fun n => cutR (row ns n) (nth l n)
theorem cutL_len (ns : List (List Int)) (l : List Int) (k : Nat) : (cutL ns l k).length = k := by simp [cutL]
theorem cutL_succ (ns : List (List Int)) (l : List Int) (k : Nat) : cutL ns l (k + 1) = cutL ns l k ++ [cutR (row ns k) (nth l k)] := by simp [cutL, List.range_succ]
theorem row_cutL (ns : List (List Int)) (l : List Int) {k n : Nat} (h : n < k) : row (cutL ns l k) n = cutR (row ns n) (nth l n) := by
  rw [row_eq (by rw [cutL_len]; exact h)]; simp [cutL]
section
variable {ns ss : List (List Int)} (hv : vbook ns ss = 0)
include hv
theorem cut_valid (l : List Int) : vbook (cutL ns l ns.length) ss = 0 := by
  have h := vbook_valid hv
  have key : ∀ r ∈ cutL ns l ns.length, ∃ n x, row ns n ∈ ns ∧ r = cutR (row ns n) x := fun r hr => by
    obtain ⟨n, hn, rfl⟩ := List.mem_map.1 hr
    exact ⟨n, _, row_mem (List.mem_range.1 hn), rfl⟩
  refine vbook_of (by rw [cutL_len]; exact h.1) (by rw [cutL_len]; exact h.2.1) h.2.2.1 h.2.2.2.1 (fun r hr => ?_) h.2.2.2.2.2.1 (fun r hr x hx => ?_) (by rw [cutL_len]; exact h.2.2.2.2.2.2.2)
  · obtain ⟨n, x, hn, rfl⟩ := key r hr
    exact cutR_nodup (h.2.2.2.2.1 _ hn) _
  · obtain ⟨n, y, hn, rfl⟩ := key r hr
    exact h.2.2.2.2.2.2.1 _ hn x (mem_cutR.1 hx).1
theorem cut_acc {l : List Int} (hl : Sett ns ss l) {n s : Nat} : (sd (cutL ns l ns.length) ss).acc n s ↔ (sd ns ss).acc n s ∧ ∀ t, rel l n t → (sd ns ss).rn n s ≤ (sd ns ss).rn n t := by
  show (n < (cutL ns l ns.length).length ∧ s < ss.length ∧ (s : Int) ∈ row (cutL ns l ns.length) n ∧ (n : Int) ∈ row ss s) ↔ (n < ns.length ∧ s < ss.length ∧ (s : Int) ∈ row ns n ∧ (n : Int) ∈ row ss s) ∧ _
  rw [cutL_len]
  constructor
  · rintro ⟨h1, h2, h3, h4⟩
    rw [row_cutL _ _ h1, mem_cutR] at h3
    refine ⟨⟨h1, h2, h3.1, h4⟩, fun t ht => ?_⟩
    have h5 := h3.2 (by rw [ht.2]; exact (hl.stab.acc ht).2.2.1)
    show (plc (row ns n) (s : Int)).toNat ≤ (plc (row ns n) (t : Int)).toNat
    rw [ht.2] at h5
    omega
  · rintro ⟨⟨h1, h2, h3, h4⟩, h5⟩
    refine ⟨h1, h2, ?_, h4⟩
    rw [row_cutL _ _ h1, mem_cutR]
    refine ⟨h3, fun h6 => ?_⟩
    have h0 : 0 ≤ nth l n := ((vbook_valid hv).2.2.2.2.2.2.1 _ (row_mem h1) _ h6).1
    have h7 : (plc (row ns n) (s : Int)).toNat ≤ (plc (row ns n) (((nth l n).toNat : Nat) : Int)).toNat := h5 (nth l n).toNat ⟨by rw [hl.1.len]; exact h1, by omega⟩
    rw [show (((nth l n).toNat : Nat) : Int) = nth l n by omega] at h7
    have := plc_nonneg.2 h3
    have := plc_nonneg.2 h6
    omega
omit hv in
theorem cut_rn {l : List Int} {n s : Nat} (h : (sd (cutL ns l ns.length) ss).acc n s) : (sd (cutL ns l ns.length) ss).rn n s = (sd ns ss).rn n s := by
  have h1 : n < ns.length := by have := h.1; rwa [cutL_len] at this
  have h3 := h.2.2.1
  rw [row_cutL _ _ h1] at h3
  show (plc (row (cutL ns l ns.length) n) (s : Int)).toNat = (plc (row ns n) (s : Int)).toNat
  rw [row_cutL _ _ h1, plc_cutR h3]
theorem cut_stab {P : Nat → Nat → Prop} : SM.Stab (sd ns ss) P ↔ SM.Stab (sd (cutL ns (lastF ns ss) ns.length) ss) P := by
  have hl := last_sett hv
  have key : ∀ {P : Nat → Nat → Prop}, SM.Stab (sd ns ss) P → SM.Stab (sd (cutL ns (lastF ns ss) ns.length) ss) P := fun {P} h => by
    have hac : ∀ {n s}, P n s → (sd (cutL ns (lastF ns ss) ns.length) ss).acc n s := fun {n s} hp => (cut_acc hv hl).2 ⟨h.acc hp, fun t ht => by
      obtain ⟨u, hu, hle⟩ := (claims_opt ((vbook_swap ns ss).1 hv)).star (stab_swap.1 h) ((last_rel hv n t).1 ht)
      have := h.fn hu hp
      subst this
      exact hle⟩
    refine ⟨hac, fun a b => h.fn a b, fun a b => h.fs a b, fun {n s} ha => ?_⟩
    rcases h.dom ((cut_acc hv hl).1 ha).1 with ⟨t, ht, hle⟩ | h2
    · exact .inl ⟨t, ht, by rw [cut_rn (hac ht), cut_rn ha]; exact hle⟩
    · exact .inr h2
  refine ⟨key, fun h => ⟨fun hp => ((cut_acc hv hl).1 (h.acc hp)).1, fun a b => h.fn a b, fun a b => h.fs a b, fun {n s} ha => ?_⟩⟩
  by_cases hc : (sd (cutL ns (lastF ns ss) ns.length) ss).acc n s
  · rcases h.dom hc with ⟨t, ht, hle⟩ | h2
    · exact .inl ⟨t, ht, by rw [cut_rn (h.acc ht), cut_rn hc] at hle; exact hle⟩
    · exact .inr h2
  · obtain ⟨t, ht, hlt⟩ : ∃ t, rel (lastF ns ss) n t ∧ (sd ns ss).rn n t < (sd ns ss).rn n s := by
      apply Classical.byContradiction
      intro hno
      exact hc ((cut_acc hv hl).2 ⟨ha, fun t ht => by
        apply Classical.byContradiction
        intro h2
        exact hno ⟨t, ht, by omega⟩⟩)
    obtain ⟨u, hu⟩ := (key hl.stab).rural h ht
    have := ((cut_acc hv hl).1 (h.acc hu)).2 t ht
    exact .inl ⟨u, hu, by omega⟩
theorem cut_sett (m : List Int) : Sett ns ss m ↔ Sett (cutL ns (lastF ns ss) ns.length) ss m := by
  constructor
  · intro h
    exact of_stab (by rw [cutL_len]; exact h.1.len) (fun n hn => h.1.lo n (by rwa [cutL_len] at hn)) ((cut_stab hv).1 h.stab)
  · intro h
    exact of_stab (by rw [h.1.len, cutL_len]) (fun n hn => h.1.lo n (by rwa [cutL_len])) ((cut_stab hv).2 h.stab)
end
theorem befF_asymm : ∀ (a b : List Int), befF a b = true → befF b a = true → False
  | [], _, h, _ => by simp [befF] at h
  | _ :: _, [], h, _ => by simp [befF] at h
  | x :: l, y :: m, h, h' => by
    rw [befF] at h h'
    by_cases e : x = y
    · subst e
      simp only [beq_self_eq_true, if_true] at h h'
      exact befF_asymm l m h h'
    · have e1 : (x == y) = false := by simpa using e
      have e2 : (y == x) = false := by simpa using fun h => e h.symm
      rw [e1] at h
      rw [e2] at h'
      simp at h h'
      omega
theorem sorted_ext : ∀ {a b : List (List Int)}, (a.Pairwise fun x y => befF x y = true) → (b.Pairwise fun x y => befF x y = true) → (∀ x, x ∈ a ↔ x ∈ b) → a = b
  | [], [], _, _, _ => rfl
  | [], y :: b, _, _, h => absurd ((h y).2 (by simp)) (by simp)
  | x :: a, [], _, _, h => absurd ((h x).1 (by simp)) (by simp)
  | x :: a, y :: b, ha, hb, h => by
    rw [List.pairwise_cons] at ha hb
    have e : x = y := by
      rcases List.mem_cons.1 ((h x).1 (by simp)) with e | h1
      · exact e
      · rcases List.mem_cons.1 ((h y).2 (by simp)) with e | h2
        · exact e.symm
        · exact (befF_asymm _ _ (ha.1 y h2) (hb.1 x h1)).elim
    subst e
    have hirr : ∀ z, befF z z = true → False := fun z h => befF_asymm z z h h
    rw [sorted_ext ha.2 hb.2 fun z => ?_]
    constructor
    · intro hz
      rcases List.mem_cons.1 ((h z).1 (by simp [hz])) with e | h1
      · subst e; exact (hirr _ (ha.1 _ hz)).elim
      · exact h1
    · intro hz
      rcases List.mem_cons.1 ((h z).2 (by simp [hz])) with e | h1
      · subst e; exact (hirr _ (hb.1 _ hz)).elim
      · exact h1
theorem allOf_pairwise (ns ss : List (List Int)) : (allOf ns ss).Pairwise fun a b => befF a b = true := List.Pairwise.filter _ (lvl_sorted ns ss ns.length)
section
variable {ns ss : List (List Int)} (hv : vbook ns ss = 0)
include hv
theorem cut_all : allOf (cutL ns (lastF ns ss) ns.length) ss = allOf ns ss :=
  sorted_ext (allOf_pairwise _ _) (allOf_pairwise _ _) fun m => by rw [mem_allOf, mem_allOf, cut_sett hv]
theorem cut_first : claimsF (tabOf (cutL ns (lastF ns ss) ns.length) ss) (cutL ns (lastF ns ss) ns.length) = claimsF (tabOf ns ss) ns := by
  have hx := cut_valid hv (lastF ns ss)
  have hc := claims_sett hx
  have hc0 := (cut_sett hv _).2 hc
  refine sett_anti hc0 (claims_sett hv) (fun n s h => ?_) fun n s h => (claims_opt hv).best hc0.stab h
  have h2 := (cut_stab hv).1 (claims_stab hv)
  obtain ⟨t, ht, hle⟩ := (claims_opt hx).best h2 h
  exact ⟨t, ht, by rw [cut_rn (hc.stab.acc ht), cut_rn (h2.acc h)] at hle; exact hle⟩
theorem cut_last : lastF (cutL ns (lastF ns ss) ns.length) ss = lastF ns ss := by
  have hx := cut_valid hv (lastF ns ss)
  have hc := last_sett hx
  have hc0 := (cut_sett hv _).2 hc
  have hl := last_sett hv
  refine hc0.opt_ext hl fun n s => ?_
  constructor
  · intro h
    obtain ⟨k, hk, hle⟩ := last_best hv hc0.stab h
    obtain ⟨j, hj, hle2⟩ := last_best hx ((cut_stab hv).1 hl.stab) hk
    have := hc.stab.fs hj h
    subst this
    have hle2 : (sd ns ss).rs s j ≤ (sd ns ss).rs s k := hle2
    have := (sd ns ss).js (hl.stab.acc hk) (hc0.stab.acc h) (by omega)
    subst this
    exact hk
  · intro h
    obtain ⟨k, hk, hle⟩ := last_best hx ((cut_stab hv).1 hl.stab) h
    obtain ⟨j, hj, hle2⟩ := last_best hv hc0.stab hk
    have := hl.stab.fs hj h
    subst this
    have hle : (sd ns ss).rs s k ≤ (sd ns ss).rs s j := hle
    have := (sd ns ss).js (hc0.stab.acc hk) (hl.stab.acc h) (by omega)
    subst this
    exact hk
end

/- one nation's list replaced -/
theorem row_set {ns : List (List Int)} {n : Nat} (L : List Int) (h : n < ns.length) (k : Nat) : row (ns.set n L) k = if k = n then L else row ns k := by
  by_cases e : k = n
  · subst e; simp [row, h]
  · rw [if_neg e]
    simp only [row, List.getD_eq_getElem?_getD]
    rw [List.getElem?_set_ne (by omega)]
theorem mem_set {ns : List (List Int)} {n : Nat} {L : List Int} (r : List Int) (hr : r ∈ ns.set n L) : r = L ∨ r ∈ ns := (List.mem_or_eq_of_mem_set hr).symm
theorem set_valid {ns ss : List (List Int)} (hv : vbook ns ss = 0) {n : Nat} (hn : n < ns.length) {L : List Int} (h1 : L.Nodup) (h2 : ∀ x ∈ L, x ∈ row ns n) : vbook (ns.set n L) ss = 0 := by
  have h := vbook_valid hv
  refine vbook_of (by rw [List.length_set]; exact h.1) (by rw [List.length_set]; exact h.2.1) h.2.2.1 h.2.2.2.1 (fun r hr => ?_) h.2.2.2.2.2.1 (fun r hr x hx => ?_) (by rw [List.length_set]; exact h.2.2.2.2.2.2.2)
  · rcases mem_set r hr with rfl | hr
    · exact h1
    · exact h.2.2.2.2.1 r hr
  · rcases mem_set r hr with rfl | hr
    · exact h.2.2.2.2.2.2.1 _ (row_mem hn) x (h2 x hx)
    · exact h.2.2.2.2.2.2.1 r hr x hx
section
variable {ns ss : List (List Int)} {n : Nat} (hn : n < ns.length)
include hn
theorem set_acc {L : List Int} {k s : Nat} (hk : k ≠ n) : (sd (ns.set n L) ss).acc k s ↔ (sd ns ss).acc k s := by
  show (k < (ns.set n L).length ∧ s < ss.length ∧ (s : Int) ∈ row (ns.set n L) k ∧ (k : Int) ∈ row ss s) ↔ (k < ns.length ∧ s < ss.length ∧ (s : Int) ∈ row ns k ∧ (k : Int) ∈ row ss s)
  rw [List.length_set, row_set L hn, if_neg hk]
theorem set_rn {L : List Int} {k s : Nat} (hk : k ≠ n) : (sd (ns.set n L) ss).rn k s = (sd ns ss).rn k s := by
  show (plc (row (ns.set n L) k) (s : Int)).toNat = (plc (row ns k) (s : Int)).toNat
  rw [row_set L hn, if_neg hk]
theorem set_accN {L : List Int} {s : Nat} : (sd (ns.set n L) ss).acc n s ↔ s < ss.length ∧ (s : Int) ∈ L ∧ (n : Int) ∈ row ss s := by
  show (n < (ns.set n L).length ∧ s < ss.length ∧ (s : Int) ∈ row (ns.set n L) n ∧ (n : Int) ∈ row ss s) ↔ _
  rw [List.length_set, row_set L hn, if_pos rfl]
  exact ⟨fun h => h.2, fun h => ⟨hn, h⟩⟩
theorem set_rnN {L : List Int} {s : Nat} : (sd (ns.set n L) ss).rn n s = (plc L s).toNat := by
  show (plc (row (ns.set n L) n) (s : Int)).toNat = _
  rw [row_set L hn, if_pos rfl]
/-- a change of one list that leaves what the nation has, and what it would rather have -/
theorem set_stab {L L' : List Int} {P : Nat → Nat → Prop} (h : SM.Stab (sd (ns.set n L) ss) P) (h1 : ∀ {s}, P n s → (s : Int) ∈ L')
    (h2 : ∀ {s}, (sd (ns.set n L') ss).acc n s → (∃ t, P n t ∧ (plc L' t).toNat ≤ (plc L' s).toNat) ∨ ∃ m, P m s ∧ (sd ns ss).rs s m ≤ (sd ns ss).rs s n) : SM.Stab (sd (ns.set n L') ss) P where
  acc := fun {k s} hp => by
    by_cases hk : k = n
    · subst hk
      have := (set_accN hn).1 (h.acc hp)
      exact (set_accN hn).2 ⟨this.1, h1 hp, this.2.2⟩
    · exact (set_acc hn hk).2 ((set_acc hn hk).1 (h.acc hp))
  fn := fun a b => h.fn a b
  fs := fun a b => h.fs a b
  dom := fun {k s} ha => by
    by_cases hk : k = n
    · subst hk
      rcases h2 ha with ⟨t, ht, hle⟩ | h3
      · exact .inl ⟨t, ht, by rw [set_rnN hn, set_rnN hn]; exact hle⟩
      · exact .inr h3
    · rcases h.dom ((set_acc hn hk).2 ((set_acc hn hk).1 ha)) with ⟨t, ht, hle⟩ | h3
      · exact .inl ⟨t, ht, by rw [set_rn hn hk, set_rn hn hk] at hle ⊢; exact hle⟩
      · exact .inr h3
theorem set_self : ns.set n (row ns n) = ns := by
  rw [row_eq hn]; exact List.set_getElem_self hn
end
/-- NO NATION GAINS BY ANOTHER LIST. -/
theorem honest {ns ss : List (List Int)} (hv : vbook ns ss = 0) {n : Nat} (hn : n < ns.length) {L : List Int} (h1 : L.Nodup) (h2 : ∀ x ∈ L, x ∈ row ns n) :
    rathB (row ns n) (nth (claimsF (tabOf (ns.set n L) ss) (ns.set n L)) n) (nth (claimsF (tabOf ns ss) ns) n) = false := by
  have hx := set_valid hv hn h1 h2
  have hg := claims_sett hx
  have hf := claims_sett hv
  obtain ⟨g, eg⟩ : ∃ g, claimsF (tabOf (ns.set n L) ss) (ns.set n L) = g := ⟨_, rfl⟩
  obtain ⟨f, ef⟩ : ∃ f, claimsF (tabOf ns ss) ns = f := ⟨_, rfl⟩
  have hopt := claims_opt hv
  rw [ef] at hopt hf ⊢
  rw [eg] at hg ⊢
  rw [← Bool.not_eq_true, rathB, Bool.and_eq_true, decide_eq_true_iff, rth_iff]
  rintro ⟨h0, h3, h4⟩
  have hgn : n < (ns.set n L).length := by rw [List.length_set]; exact hn
  obtain ⟨s, hs⟩ : ∃ s : Nat, nth g n = s := ⟨(nth g n).toNat, by omega⟩
  rw [hs] at h3 h4
  have rg : rel g n s := ⟨by rw [hg.1.len]; exact hgn, hs⟩
  -- the list of s alone
  have sg : SM.Stab (sd (ns.set n [(s : Int)]) ss) (rel g) := set_stab hn hg.stab (fun {t} ht => by have := hg.stab.fn ht rg; subst this; simp) fun {t} ha => by
    have := ((set_accN hn).1 ha).2.1
    simp at this
    obtain rfl : t = s := by omega
    exact .inl ⟨t, rg, Nat.le_refl _⟩
  -- the list as far as s
  have hx2 := set_valid hv hn (L := cutR (row ns n) s) (cutR_nodup ((vbook_valid hv).2.2.2.2.1 _ (row_mem hn)) _) (fun x hx => (mem_cutR.1 hx).1)
  have hh := claims_stab hx2
  obtain ⟨h, eh⟩ : ∃ h, claimsF (tabOf (ns.set n (cutR (row ns n) s)) ss) (ns.set n (cutR (row ns n) s)) = h := ⟨_, rfl⟩
  rw [eh] at hh
  by_cases hu : ∃ u, rel h n u
  · obtain ⟨u, hu⟩ := hu
    have hul := ((set_accN hn).1 (hh.acc hu)).2.1
    have hul2 := mem_cutR.1 hul
    have hst : SM.Stab (sd (ns.set n (row ns n)) ss) (rel h) := set_stab hn hh (fun {t} ht => (mem_cutR.1 ((set_accN hn).1 (hh.acc ht)).2.1).1) fun {t} ha => by
      obtain ⟨a1, a2, a3⟩ := (set_accN hn).1 ha
      by_cases hc : (t : Int) ∈ cutR (row ns n) s
      · rcases hh.dom ((set_accN hn).2 ⟨a1, hc, a3⟩) with ⟨v, hv', hle⟩ | h5
        · rw [set_rnN hn, set_rnN hn, plc_cutR hc, plc_cutR ((set_accN hn).1 (hh.acc hv')).2.1] at hle
          exact .inl ⟨v, hv', hle⟩
        · exact .inr h5
      · refine .inl ⟨u, hu, ?_⟩
        rw [mem_cutR] at hc
        have : ¬ plc (row ns n) t ≤ plc (row ns n) s := fun h6 => hc ⟨a2, fun _ => h6⟩
        have := hul2.2 h3
        omega
    rw [set_self hn] at hst
    obtain ⟨t, ht, hle⟩ := hopt.best hst hu
    have hle : (plc (row ns n) (t : Int)).toNat ≤ (plc (row ns n) (u : Int)).toNat := hle
    have := hul2.2 h3
    have := plc_nonneg.2 hul2.1
    rw [ht.2] at h4
    rcases h4 with h4 | ⟨h4, h5⟩
    · omega
    · have := plc_nonneg.2 h4
      have := plc_nonneg.2 h3
      omega
  · have sh : SM.Stab (sd (ns.set n [(s : Int)]) ss) (rel h) := set_stab hn hh (fun {t} ht => absurd ⟨t, ht⟩ hu) fun {t} ha => by
      obtain ⟨a1, a2, a3⟩ := (set_accN hn).1 ha
      simp at a2
      obtain rfl : t = s := by omega
      rcases hh.dom ((set_accN hn).2 ⟨a1, mem_cutR.2 ⟨h3, fun _ => Int.le_refl _⟩, a3⟩) with ⟨v, hv', _⟩ | h5
      · exact absurd ⟨v, hv'⟩ hu
      · exact .inr h5
    exact hu (sg.rural sh rg)

/- one nation more -/
structure More (ns ss xs ys : List (List Int)) : Prop where
  lenN : xs.length = ns.length + 1
  lenS : ys.length = ss.length
  old : ∀ n, n < ns.length → row xs n = row ns n
  mem : ∀ n s, n < ns.length → s < ss.length → ((n : Int) ∈ row ys s ↔ (n : Int) ∈ row ss s)
  ord : ∀ n m s : Nat, n < ns.length → m < ns.length → s < ss.length → (n : Int) ∈ row ss s → (m : Int) ∈ row ss s → (plc (row ss s) n < plc (row ss s) m ↔ plc (row ys s) n < plc (row ys s) m)
section
variable {ns ss xs ys : List (List Int)} (hm : More ns ss xs ys)
include hm
theorem More.acc {n s : Nat} (h : n < ns.length) : (sd xs ys).acc n s ↔ (sd ns ss).acc n s := by
  show (n < xs.length ∧ s < ys.length ∧ (s : Int) ∈ row xs n ∧ (n : Int) ∈ row ys s) ↔ (n < ns.length ∧ s < ss.length ∧ (s : Int) ∈ row ns n ∧ (n : Int) ∈ row ss s)
  rw [hm.lenN, hm.lenS, hm.old n h]
  constructor
  · rintro ⟨_, a, b, c⟩; exact ⟨h, a, b, (hm.mem n s h a).1 c⟩
  · rintro ⟨_, a, b, c⟩; exact ⟨by omega, a, b, (hm.mem n s h a).2 c⟩
theorem More.rn {n s : Nat} (h : n < ns.length) : (sd xs ys).rn n s = (sd ns ss).rn n s := by
  show (plc (row xs n) (s : Int)).toNat = (plc (row ns n) (s : Int)).toNat
  rw [hm.old n h]
theorem More.rs {n m s : Nat} (h : n < ns.length) (h' : m < ns.length) (h1 : (sd ns ss).acc n s) (h2 : (sd ns ss).acc m s) : (sd xs ys).rs s n < (sd xs ys).rs s m ↔ (sd ns ss).rs s n < (sd ns ss).rs s m := by
  show (plc (row ys s) (n : Int)).toNat < (plc (row ys s) (m : Int)).toNat ↔ (plc (row ss s) (n : Int)).toNat < (plc (row ss s) (m : Int)).toNat
  have := hm.ord n m s h h' h1.2.1 h1.2.2.2 h2.2.2.2
  have a1 := plc_nonneg.2 h1.2.2.2
  have a2 := plc_nonneg.2 h2.2.2.2
  have a3 := plc_nonneg.2 ((hm.mem n s h h1.2.1).2 h1.2.2.2)
  have a4 := plc_nonneg.2 ((hm.mem m s h' h1.2.1).2 h2.2.2.2)
  omega
theorem More.fair {G : Nat → Nat → Prop} (hG : SM.Stab (sd xs ys) G) : Fair ns ss fun n s => n < ns.length ∧ G n s where
  acc := fun ⟨h, hg⟩ => (hm.acc h).1 (hG.acc hg)
  fs := fun ⟨_, a⟩ ⟨_, b⟩ => hG.fs a b
  keep := fun {n k s} ha ⟨hn, hg⟩ hlt => by
    have hk := ha.1
    have hgn := (hm.acc hn).1 (hG.acc hg)
    rcases hG.dom ((hm.acc hk).2 ha) with ⟨t, ht, hle⟩ | ⟨m, hmm, hle⟩
    · rw [hm.rn hk, hm.rn hk] at hle
      exact ⟨t, ⟨hk, ht⟩, hle⟩
    · have := hG.fs hmm hg
      subst this
      have := (hm.rs hk hn ha hgn).2 hlt
      omega
variable (hv : vbook ns ss = 0) (hx : vbook xs ys = 0)
include hv hx
theorem More.nation {n s : Nat} (h : n < ns.length) (hr : rel (claimsF (tabOf xs ys) xs) n s) : ∃ t, rel (claimsF (tabOf ns ss) ns) n t ∧ (sd ns ss).rn n t ≤ (sd ns ss).rn n s := by
  obtain ⟨t, ht, hle⟩ := fin_fair hv (hm.fair (claims_stab hx)) (n := n) (s := s) ⟨h, hr⟩
  exact ⟨t, (claims_rel hv n t).2 ht, hle⟩
theorem More.nat_rath {n : Nat} (h : n < ns.length) : rathB (row ns n) (nth (claimsF (tabOf xs ys) xs) n) (nth (claimsF (tabOf ns ss) ns) n) = false := by
  rw [← hm.old n h]
  refine not_rath_n (ss := ys) (claims_sett hx) (by rw [hm.lenN]; omega) fun s hs => ?_
  obtain ⟨t, ht, hle⟩ := hm.nation hv hx h hs
  exact ⟨t, ht, by rw [hm.rn h, hm.rn h]; exact hle⟩
theorem More.star_rath {s : Nat} (hs : s < ss.length) : rathB (row ys s) (plc (claimsF (tabOf ns ss) ns) s) (plc (claimsF (tabOf xs ys) xs) s) = false := by
  have hf := claims_sett hv
  have hg := claims_sett hx
  refine not_rath_s hg fun n hr => ?_
  have hacc := hf.stab.acc hr
  rcases hg.stab.dom ((hm.acc hacc.1).2 hacc) with ⟨t, ht, hle⟩ | h2
  · rw [hm.rn hacc.1, hm.rn hacc.1] at hle
    obtain ⟨u, hu, hle2⟩ := hm.nation hv hx hacc.1 ht
    have := hf.stab.fn hu hr
    subst this
    have := (sd ns ss).jn ((hm.acc hacc.1).1 (hg.stab.acc ht)) hacc (by omega)
    subst this
    exact ⟨n, ht, Nat.le_refl _⟩
  · exact h2
end
/-- a number put into a list -/
def putAt (l : List Int) (k : Nat) (x : Int) : List Int := l.take k ++ x :: l.drop k
theorem mem_putAt {l : List Int} {k : Nat} {x a : Int} : a ∈ putAt l k x ↔ a = x ∨ a ∈ l := by
  rw [putAt, List.mem_append, List.mem_cons]
  have h : a ∈ l ↔ a ∈ l.take k ∨ a ∈ l.drop k := by rw [← List.mem_append, List.take_append_drop]
  rw [h]
  constructor
  · rintro (h | h | h) <;> simp [h]
  · rintro (h | h | h) <;> simp [h]
theorem putAt_nodup {l : List Int} {k : Nat} {x : Int} (h : l.Nodup) (hx : x ∉ l) : (putAt l k x).Nodup := by
  have hp : (putAt l k x).Perm (x :: l) := by
    rw [putAt]
    refine List.perm_middle.trans ?_
    rw [List.take_append_drop]
  rw [hp.nodup_iff, List.nodup_cons]
  exact ⟨hx, h⟩
theorem nth_putAt {l : List Int} {k : Nat} {x : Int} (hk : k ≤ l.length) (i : Nat) : nth (putAt l k x) i = if i < k then nth l i else if i = k then x else nth l (i - 1) := by
  simp only [nth, putAt, List.getD_eq_getElem?_getD]
  by_cases h : i < k
  · rw [if_pos h, List.getElem?_append_left (by rw [List.length_take]; omega), List.getElem?_take_of_lt h]
  · rw [if_neg h, List.getElem?_append_right (by rw [List.length_take]; omega), List.length_take, Nat.min_eq_left hk]
    by_cases e : i = k
    · rw [if_pos e]; subst e; simp
    · rw [if_neg e]
      obtain ⟨j, hj⟩ : ∃ j, i - k = j + 1 := ⟨i - k - 1, by omega⟩
      rw [hj, List.getElem?_cons_succ, List.getElem?_drop, show k + j = i - 1 by omega]
theorem plc_putAt {l : List Int} {k : Nat} {x a : Int} (hk : k ≤ l.length) (ha : a ∈ l) (hx : x ≠ a) : plc (putAt l k x) a = if plc l a < k then plc l a else plc l a + 1 := by
  obtain ⟨j, e, h1, h2, h3⟩ := plc_mem ha
  have hlen : (putAt l k x).length = l.length + 1 := by simp [putAt]; omega
  rw [e]
  by_cases h : j < k
  · rw [if_pos (by omega)]
    refine plc_is (by omega) (by rw [nth_putAt hk, if_pos h]; exact h2) fun i hi => ?_
    rw [nth_putAt hk, if_pos (by omega)]; exact h3 i hi
  · rw [if_neg (by omega)]
    refine plc_is (j := j + 1) (by omega) (by rw [nth_putAt hk, if_neg (by omega), if_neg (by omega)]; exact h2) fun i hi => ?_
    rw [nth_putAt hk]
    by_cases h4 : i < k
    · rw [if_pos h4]; exact h3 i (by omega)
    · rw [if_neg h4]
      by_cases h5 : i = k
      · rw [if_pos h5]; exact hx
      · rw [if_neg h5]; exact h3 (i - 1) (by omega)

theorem take_perm (left : List Int) (k : Nat) (h : k < left.length) : (nth left k :: (left.take k ++ left.drop (k + 1))).Perm left := by
  have h1 : left = left.take k ++ (left[k] :: left.drop (k + 1)) := by
    rw [← List.drop_eq_getElem_cons h, List.take_append_drop]
  rw [nth_eq h]
  exact List.Perm.trans List.perm_middle.symm (List.Perm.of_eq h1.symm)
theorem replF_sub : ∀ (bs left acc R : List Int), (acc ++ left).Nodup → (∀ x ∈ acc ++ left, x ∈ R) → (∀ x ∈ bs, 0 ≤ x) → (replF bs left acc).Nodup ∧ ∀ x ∈ replF bs left acc, x ∈ R
  | [], left, acc, R, h1, h2, _ => ⟨(List.nodup_append.1 h1).1, fun x hx => h2 x (List.mem_append_left _ hx)⟩
  | x :: bs, left, acc, R, h1, h2, h3 => by
    have h3' : ∀ y ∈ bs, 0 ≤ y := fun y hy => h3 y (by simp [hy])
    rw [replF]
    by_cases he : left = []
    · rw [if_pos he]
      exact ⟨(List.nodup_append.1 h1).1, fun x hx => h2 x (List.mem_append_left _ hx)⟩
    rw [if_neg he]
    have g0 := Int.emod_nonneg x (show ((left.length : Int) + 1) ≠ 0 by omega)
    have g1 := Int.emod_lt_of_pos x (show (0 : Int) < (left.length : Int) + 1 by omega)
    by_cases hk : (x % ((left.length : Int) + 1)).toNat = left.length
    · rw [if_pos hk]
      refine replF_sub bs (left.drop 1) acc R ?_ (fun y hy => ?_) h3'
      · exact List.Nodup.sublist (List.Sublist.append (List.Sublist.refl _) (List.drop_sublist _ _)) h1
      · rcases List.mem_append.1 hy with hy | hy
        · exact h2 y (List.mem_append_left _ hy)
        · exact h2 y (List.mem_append_right _ (List.mem_of_mem_drop hy))
    · rw [if_neg hk]
      have hlt : (x % ((left.length : Int) + 1)).toNat < left.length := by omega
      have hp := take_perm left _ hlt
      have hp2 : ((acc ++ [nth left (x % ((left.length : Int) + 1)).toNat]) ++ (left.take (x % ((left.length : Int) + 1)).toNat ++ left.drop ((x % ((left.length : Int) + 1)).toNat + 1))).Perm (acc ++ left) := by
        rw [List.append_assoc]
        exact List.Perm.append_left acc hp
      exact replF_sub bs _ _ R (hp2.nodup_iff.2 h1) (fun y hy => h2 y (hp2.mem_iff.1 hy)) h3'
theorem repl_ok {ns ss : List (List Int)} (hv : vbook ns ss = 0) {n : Nat} (hn : n < ns.length) {bs : List Int} (hb : ∀ k, k < bs.length → 0 ≤ nth bs k ∧ nth bs k ≤ 255) :
    (replF bs (row ns n) []).Nodup ∧ ∀ x ∈ replF bs (row ns n) [], x ∈ row ns n :=
  replF_sub bs (row ns n) [] (row ns n) (by simpa using (vbook_valid hv).2.2.2.2.1 _ (row_mem hn)) (by simp) (fun x hx => by
    obtain ⟨k, hk, rfl⟩ := mem_nth hx
    exact (hb k hk).1)
/-- the stars of the new nation: none twice -/
def starsF (S : Int) : List Int → List Int → List Int
  | [], acc => acc
  | x :: l, acc => starsF S l (if plc acc (x % S) < 0 then acc ++ [x % S] else acc)
theorem starsF_drop (S : Int) (l acc : List Int) (k : Nat) (h : k < l.length) : starsF S (l.drop k) acc = starsF S (l.drop (k + 1)) (if plc acc (nth l k % S) < 0 then acc ++ [nth l k % S] else acc) := by
  rw [List.drop_eq_getElem_cons h, starsF, nth_eq h]
theorem starsF_end (S : Int) (l acc : List Int) (k : Nat) (h : l.length ≤ k) : starsF S (l.drop k) acc = acc := by
  rw [List.drop_eq_nil_of_le h, starsF]
theorem starsF_ok {S : Int} (hS : 0 < S) : ∀ (l acc : List Int), acc.Nodup → (∀ x ∈ acc, 0 ≤ x ∧ x < S) → (starsF S l acc).Nodup ∧ ∀ x ∈ starsF S l acc, 0 ≤ x ∧ x < S
  | [], acc, h1, h2 => ⟨h1, h2⟩
  | x :: l, acc, h1, h2 => by
    rw [starsF]
    by_cases h : plc acc (x % S) < 0
    · rw [if_pos h]
      have hni : x % S ∉ acc := fun hi => by have := plc_nonneg.2 hi; omega
      refine starsF_ok hS l _ ?_ fun y hy => ?_
      · rw [List.nodup_append]
        exact ⟨h1, by simp, fun a ha b hb => by simp at hb; subst hb; rintro rfl; exact hni ha⟩
      · rcases List.mem_append.1 hy with hy | hy
        · exact h2 y hy
        · simp at hy; subst hy; exact ⟨Int.emod_nonneg _ (by omega), Int.emod_lt_of_pos _ hS⟩
    · rw [if_neg h]
      exact starsF_ok hS l acc h1 h2
/-- where the new nation stands on a star's list -/
def moreR (at_ : List Int) (own : Int) (i : Nat) (l : List Int) : List Int :=
  if at_ = [] then l else putAt l (nth at_ (i % at_.length) % ((l.length : Int) + 1)).toNat own
def moreS (at_ : List Int) (own : Int) (ss : List (List Int)) (k : Nat) : List (List Int) := (List.range k).map fun i => moreR at_ own i (row ss i)
theorem moreS_len (at_ : List Int) (own : Int) (ss : List (List Int)) (k : Nat) : (moreS at_ own ss k).length = k := by simp [moreS]
theorem moreS_succ (at_ : List Int) (own : Int) (ss : List (List Int)) (k : Nat) : moreS at_ own ss (k + 1) = moreS at_ own ss k ++ [moreR at_ own k (row ss k)] := by simp [moreS, List.range_succ]
theorem row_moreS (at_ : List Int) (own : Int) (ss : List (List Int)) {k i : Nat} (h : i < k) : row (moreS at_ own ss k) i = moreR at_ own i (row ss i) := by
  rw [row_eq (by rw [moreS_len]; exact h)]; simp [moreS]
theorem moreR_at {l : List Int} {x : Int} : (x % ((l.length : Int) + 1)).toNat ≤ l.length := by
  have g0 := Int.emod_nonneg x (show ((l.length : Int) + 1) ≠ 0 by omega)
  have g1 := Int.emod_lt_of_pos x (show (0 : Int) < (l.length : Int) + 1 by omega)
  omega
theorem row_snoc (ns : List (List Int)) (r : List Int) {n : Nat} (h : n < ns.length) : row (ns ++ [r]) n = row ns n := by
  simp [row, List.getD_eq_getElem?_getD, List.getElem?_append_left h]
section
variable {ns ss : List (List Int)} (hv : vbook ns ss = 0) (at_ : List Int) (st : List Int)
include hv
theorem more_more : More ns ss (ns ++ [st]) (moreS at_ ns.length ss ss.length) := by
  have hb := vbook_valid hv
  have hown : ∀ s, s < ss.length → ((ns.length : Nat) : Int) ∉ row ss s := fun s hs hi => by
    have := hb.2.2.2.2.2.2.2 _ (row_mem hs) _ hi
    omega
  refine ⟨by simp, by rw [moreS_len], fun n hn => row_snoc ns st hn, fun n s hn hs => ?_, fun n m s hn hm hs h1 h2 => ?_⟩
  · rw [row_moreS _ _ _ hs, moreR]
    split
    · exact Iff.rfl
    · rw [mem_putAt]
      exact ⟨fun h => h.resolve_left (by omega), .inr⟩
  · rw [row_moreS _ _ _ hs, moreR]
    split
    · exact Iff.rfl
    · rw [plc_putAt moreR_at h1 (by omega), plc_putAt moreR_at h2 (by omega)]
      have e1 := plc_nonneg.2 h1
      have e2 := plc_nonneg.2 h2
      split <;> split <;> omega
theorem more_valid (hlt : ns.length < 6) (h1 : st.Nodup) (h2 : ∀ x ∈ st, 0 ≤ x ∧ x < ss.length) : vbook (ns ++ [st]) (moreS at_ ns.length ss ss.length) = 0 := by
  have hb := vbook_valid hv
  have key : ∀ r ∈ moreS at_ ns.length ss ss.length, ∃ i, i < ss.length ∧ r = moreR at_ ns.length i (row ss i) := fun r hr => by
    obtain ⟨n, hn, rfl⟩ := List.mem_map.1 hr
    exact ⟨n, List.mem_range.1 hn, rfl⟩
  refine vbook_of (by simp) (by simp; omega) (by rw [moreS_len]; exact hb.2.2.1) (by rw [moreS_len]; exact hb.2.2.2.1) (fun r hr => ?_) (fun r hr => ?_) (fun r hr x hx => ?_) (fun r hr x hx => ?_)
  · rcases List.mem_append.1 hr with hr | hr
    · exact hb.2.2.2.2.1 r hr
    · simp at hr; subst hr; exact h1
  · obtain ⟨i, hi, rfl⟩ := key r hr
    rw [moreR]
    split
    · exact hb.2.2.2.2.2.1 _ (row_mem hi)
    · refine putAt_nodup (hb.2.2.2.2.2.1 _ (row_mem hi)) fun hin => ?_
      have := hb.2.2.2.2.2.2.2 _ (row_mem hi) _ hin
      omega
  · rw [moreS_len]
    rcases List.mem_append.1 hr with hr | hr
    · exact hb.2.2.2.2.2.2.1 r hr x hx
    · simp at hr; subst hr; exact h2 x hx
  · obtain ⟨i, hi, rfl⟩ := key r hr
    rw [List.length_append, List.length_singleton]
    rw [moreR] at hx
    have hold := hb.2.2.2.2.2.2.2 _ (row_mem hi)
    split at hx
    · have := hold x hx; omega
    · rcases mem_putAt.1 hx with rfl | hx
      · omega
      · have := hold x hx; omega
end
end Go.Proofs.Ytieaibebnkdmhaa
