import Derived.Test.YtdhdpbnlhnodjaaApaS
/-  Plain law for NameMiddle: the second of three settings, name by name; the first setting is behind none. -/
namespace Go.Proofs.Ytdhdpbnlhnodjaa
open Go.RowKit
open Sat (plc setL rightP sidesL lexLe firstS)
/-- whether a list comes before another one that is as long -/
def befF : List Int → List Int → Bool
  | x :: xs, y :: ys => if x = y then befF xs ys else decide (x < y)
  | _, _ => false
theorem bef_self : ∀ xs : List Int, befF xs xs = false
  | [] => rfl
  | x :: xs => by rw [befF, if_pos rfl]; exact bef_self xs
theorem bef_not : ∀ (i : Nat) (xs ys : List Int), (∀ j, j < i → nth xs j = nth ys j) → i < xs.length → i < ys.length → nth ys i < nth xs i → befF xs ys = false
  | _, [], _, _, h, _, _ => absurd h (by simp)
  | _, _ :: _, [], _, _, h, _ => absurd h (by simp)
  | 0, x :: xs, y :: ys, _, _, _, h => by
    have h : y < x := h
    rw [befF, if_neg (by omega)]; exact decide_eq_false (by omega)
  | i + 1, x :: xs, y :: ys, hj, h1, h2, h => by
    have h0 : x = y := hj 0 (by omega)
    rw [befF, if_pos h0]
    exact bef_not i xs ys (fun j hji => hj (j + 1) (by omega)) (by simpa using h1) (by simpa using h2) h
theorem lexLe_cases : ∀ {bs cs : List Nat}, bs.length = cs.length → lexLe bs cs → bs = cs ∨ ∃ j, ∃ (h : j < bs.length) (h2 : j < cs.length), (∀ i, i < j → bs.getD i 0 = cs.getD i 0) ∧ bs[j] < cs[j]
  | [], [], _, _ => .inl rfl
  | [], _ :: _, h, _ => by simp at h
  | _ :: _, [], h, _ => by simp at h
  | b :: bs, c :: cs, h, hl => by
    rcases hl with hl | ⟨rfl, hl⟩
    · exact .inr ⟨0, by simp, by simp, fun i hi => absurd hi (Nat.not_lt_zero _), hl⟩
    · rcases lexLe_cases (by simpa using h) hl with rfl | ⟨j, h1, h2, h3, h4⟩
      · exact .inl rfl
      · refine .inr ⟨j + 1, by simpa using h1, by simpa using h2, fun i hi => ?_, by simpa using h4⟩
        cases i with
        | zero => rfl
        | succ i => simpa using h3 i (by omega)
theorem firstS_least : ∀ {k : Nat} {ok : List Nat → Bool} {bs : List Nat}, firstS k ok = some bs → ∀ cs ∈ sidesL k, ok cs = true → lexLe bs cs
  | 0, ok, bs, h, cs, _, _ => by
    rw [firstS] at h
    split at h
    · cases h; trivial
    · cases h
  | k + 1, ok, bs, h, cs, hcs, ho => by
    obtain ⟨h1, h2⟩ := Sat.mem_sidesL.1 hcs
    match cs, h1, h2, ho with
    | c :: t, h1, h2, ho =>
      have hc1 := h2 c (by simp)
      have ht : t ∈ sidesL k := Sat.mem_sidesL.2 ⟨by simpa using h1, fun d hd => h2 d (by simp [hd])⟩
      rw [firstS] at h
      cases h0 : firstS k (fun l => ok (0 :: l)) with
      | some l =>
        rw [h0] at h
        cases h
        have : c = 0 ∨ c = 1 := by omega
        rcases this with rfl | rfl
        · exact .inr ⟨rfl, firstS_least h0 t ht ho⟩
        · exact .inl (by omega)
      | none =>
        rw [h0] at h
        have : c = 0 ∨ c = 1 := by omega
        rcases this with rfl | rfl
        · rw [← Sat.firstS_head, List.head?_eq_none_iff] at h0
          have := (List.mem_filter (p := fun l => ok (0 :: l))).2 ⟨ht, ho⟩
          rw [h0] at this; cases this
        · cases h3 : firstS k (fun l => ok (1 :: l)) with
          | none => rw [h3] at h; cases h
          | some l =>
            rw [h3] at h
            cases h
            exact .inr ⟨rfl, firstS_least h3 t ht ho⟩
def med3 (a b c : Int) : Int := max (min a b) (min (max a b) c)
section
variable {n : Nat} {mn : List (Nat × Nat)} {cn N bs cs : List Nat}
/-- a setting's side of a name -/
theorem nth_side (hN : Nms n N) (hb : Bs N bs) {j : Nat} (hj : j < N.length) : nth (setL n (plc N bs)) N[j] = ((bs.getD j 0 : Nat) : Int) := by
  have hj2 : j < bs.length := by rw [hb.len]; exact hj
  have h1 := hb.le _ (List.getElem_mem hj2)
  have hm : 2 * N[j] + bs[j] ∈ plc N bs := Sat.plc_mem.2 ⟨j, hj, hj2, rfl⟩
  have hone := Sat.plc_one hN.nodup hb.le
  rw [nth_at0, Sat.at0_setL _ (hN.lt _ (List.getElem_mem hj)), List.getD_eq_getElem?_getD, List.getElem?_eq_getElem hj2, Option.getD_some]
  by_cases h0 : bs[j] = 0
  · rw [h0] at hm ⊢
    rw [if_pos (show 2 * N[j] ∈ plc N bs from hm)]; rfl
  · have h0 : bs[j] = 1 := by omega
    rw [h0] at hm ⊢
    have := hone _ hm
    rw [Sat.mate_odd] at this
    rw [if_neg this, if_pos hm]; rfl
theorem nth_none (hN : Nms n N) (hb : Bs N bs) {i : Nat} (hi : i < n) (h : ¬ i ∈ N) : nth (setL n (plc N bs)) i = -1 := by
  have h1 : ¬ 0 ≤ nth (setL n (plc N bs)) i := fun e => h ((side_ge hN hb hi).1 e)
  rw [nth_at0, Sat.at0_setL _ hi] at h1 ⊢
  split
  · rename_i h2; rw [if_pos h2] at h1; exact absurd (by decide) h1
  · rename_i h2
    rw [if_neg h2] at h1
    split
    · rename_i h3; rw [if_pos h3] at h1; exact absurd (by decide) h1
    · rfl
theorem bef_side (hN : Nms n N) (hb : Bs N bs) (hc : Bs N cs) (h : lexLe bs cs) : befF (setL n (plc N cs)) (setL n (plc N bs)) = false := by
  rcases lexLe_cases (hb.len.trans hc.len.symm) h with rfl | ⟨j, h1, h2, h3, h4⟩
  · exact bef_self _
  · have hj : j < N.length := by rw [← hb.len]; exact h1
    have hjn := hN.lt _ (List.getElem_mem hj)
    refine bef_not N[j] _ _ (fun i hi => ?_) (by rw [Sat.setL_len]; exact hjn) (by rw [Sat.setL_len]; exact hjn) ?_
    · by_cases hiN : i ∈ N
      · obtain ⟨k, hk, rfl⟩ := List.mem_iff_getElem.1 hiN
        have hkj : k < j := by
          refine Nat.lt_of_not_le fun hle => ?_
          rcases Nat.lt_or_eq_of_le hle with hlt | rfl
          · have := List.pairwise_iff_getElem.1 hN.inc j k hj hk hlt
            omega
          · exact absurd hi (Nat.lt_irrefl _)
        rw [nth_side hN hb hk, nth_side hN hc hk, h3 k hkj]
      · rw [nth_none hN hb (by omega) hiN, nth_none hN hc (by omega) hiN]
    · rw [nth_side hN hb hj, nth_side hN hc hj, List.getD_eq_getElem?_getD, List.getD_eq_getElem?_getD, List.getElem?_eq_getElem h1, List.getElem?_eq_getElem h2]
      exact Int.ofNat_lt.2 h4
/-- the side that two of three settings have -/
def medN (a b c : Nat) : Nat := max (min a b) (min (max a b) c)
def medB (k : Nat) (es bs cs : List Nat) : List Nat := (List.range k).map fun j => medN (es.getD j 0) (bs.getD j 0) (cs.getD j 0)
theorem medB_bs (N : List Nat) {es bs cs : List Nat} (ha : Bs N es) (hb : Bs N bs) (hc : Bs N cs) : Bs N (medB N.length es bs cs) :=
  ⟨by simp [medB], fun b h => by
    obtain ⟨j, hj, rfl⟩ := List.mem_map.1 h
    have hj := List.mem_range.1 hj
    have le : ∀ {xs : List Nat}, Bs N xs → xs.getD j 0 ≤ 1 := fun {xs} h => by
      rw [List.getD_eq_getElem?_getD, List.getElem?_eq_getElem (by rw [h.len]; exact hj)]
      exact h.le _ (List.getElem_mem _)
    have h1 := le ha
    have h2 := le hb
    have h3 := le hc
    show medN _ _ _ ≤ 1
    rw [medN]; omega⟩
theorem side_mem (hb : Bs N bs) {p : Nat} : p ∈ plc N bs ↔ ∃ j, ∃ (_ : j < N.length), N[j] = p / 2 ∧ bs.getD j 0 = p % 2 := by
  rw [Sat.plc_mem]
  constructor
  · rintro ⟨j, hj, hj2, rfl⟩
    have h1 := hb.le _ (List.getElem_mem hj2)
    refine ⟨j, hj, by omega, ?_⟩
    rw [List.getD_eq_getElem?_getD, List.getElem?_eq_getElem hj2, Option.getD_some]; omega
  · rintro ⟨j, hj, h1, h2⟩
    have hj2 : j < bs.length := by rw [hb.len]; exact hj
    rw [List.getD_eq_getElem?_getD, List.getElem?_eq_getElem hj2, Option.getD_some] at h2
    exact ⟨j, hj, hj2, by omega⟩
/-- a place of the second is one of two of the three -/
theorem med_two {es cs : List Nat} (ha : Bs N es) (hb : Bs N bs) (hc : Bs N cs) {p : Nat} (h : p ∈ plc N (medB N.length es bs cs)) :
    (p ∈ plc N es ∧ p ∈ plc N bs) ∨ (p ∈ plc N es ∧ p ∈ plc N cs) ∨ (p ∈ plc N bs ∧ p ∈ plc N cs) := by
  obtain ⟨j, hj, h1, h2⟩ := (side_mem (medB_bs N ha hb hc)).1 h
  rw [medB, List.getD_eq_getElem?_getD, List.getElem?_map, List.getElem?_range hj, Option.map_some, Option.getD_some, medN] at h2
  have le : ∀ {xs : List Nat}, Bs N xs → xs.getD j 0 ≤ 1 := fun {xs} h => by
    rw [List.getD_eq_getElem?_getD, List.getElem?_eq_getElem (by rw [h.len]; exact hj)]
    exact h.le _ (List.getElem_mem _)
  have g1 := le ha
  have g2 := le hb
  have g3 := le hc
  have hp : p % 2 < 2 := Nat.mod_lt _ (by decide)
  have key : (es.getD j 0 = p % 2 ∧ bs.getD j 0 = p % 2) ∨ (es.getD j 0 = p % 2 ∧ cs.getD j 0 = p % 2) ∨ (bs.getD j 0 = p % 2 ∧ cs.getD j 0 = p % 2) := by omega
  rcases key with ⟨a, b⟩ | ⟨a, b⟩ | ⟨a, b⟩
  · exact .inl ⟨(side_mem ha).2 ⟨j, hj, h1, a⟩, (side_mem hb).2 ⟨j, hj, h1, b⟩⟩
  · exact .inr (.inl ⟨(side_mem ha).2 ⟨j, hj, h1, a⟩, (side_mem hc).2 ⟨j, hj, h1, b⟩⟩)
  · exact .inr (.inr ⟨(side_mem hb).2 ⟨j, hj, h1, a⟩, (side_mem hc).2 ⟨j, hj, h1, b⟩⟩)
theorem med_right {es cs : List Nat} (ha : Bs N es) (hb : Bs N bs) (hc : Bs N cs) (h1 : rightP mn cn (plc N es) = true) (h2 : rightP mn cn (plc N bs) = true) (h3 : rightP mn cn (plc N cs) = true) : rightP mn cn (plc N (medB N.length es bs cs)) = true := by
  rw [rightP, Bool.and_eq_true, List.all_eq_true, List.all_eq_true] at h1 h2 h3 ⊢
  simp only [Bool.not_eq_true', decide_eq_false_iff_not, Bool.and_eq_false_iff] at h1 h2 h3 ⊢
  refine ⟨fun c hcn hm => ?_, fun m hm => ?_⟩
  · rcases med_two ha hb hc hm with ⟨h, _⟩ | ⟨h, _⟩ | ⟨h, _⟩
    · exact h1.1 c hcn h
    · exact h1.1 c hcn h
    · exact h2.1 c hcn h
  · by_cases e1 : m.1 ∈ plc N (medB N.length es bs cs)
    · by_cases e2 : m.2 ∈ plc N (medB N.length es bs cs)
      · have k1 := med_two ha hb hc e1
        have k2 := med_two ha hb hc e2
        have f1 := h1.2 m hm
        have f2 := h2.2 m hm
        have f3 := h3.2 m hm
        exfalso
        rcases k1 with ⟨a, b⟩ | ⟨a, b⟩ | ⟨a, b⟩ <;> rcases k2 with ⟨c, d⟩ | ⟨c, d⟩ | ⟨c, d⟩ <;> simp_all
      · exact .inr e2
    · exact .inl e1
theorem med_side {es cs : List Nat} (hN : Nms n N) (ha : Bs N es) (hb : Bs N bs) (hc : Bs N cs) : setL n (plc N (medB N.length es bs cs)) = (List.range n).map fun i => med3 (nth (setL n (plc N es)) i) (nth (setL n (plc N bs)) i) (nth (setL n (plc N cs)) i) := by
  refine List.ext_getElem (by simp [Sat.setL_len]) fun i h1 h2 => ?_
  have hi : i < n := by simpa using h2
  rw [← nth_eq h1, List.getElem_map, List.getElem_range]
  by_cases hiN : i ∈ N
  · obtain ⟨j, hj, rfl⟩ := List.mem_iff_getElem.1 hiN
    rw [nth_side hN (medB_bs N ha hb hc) hj, nth_side hN ha hj, nth_side hN hb hj, nth_side hN hc hj, medB, List.getD_eq_getElem?_getD, List.getElem?_map, List.getElem?_range hj, Option.map_some, Option.getD_some, medN, med3]
    omega
  · rw [nth_none hN (medB_bs N ha hb hc) hi hiN, nth_none hN ha hi hiN, nth_none hN hb hi hiN, nth_none hN hc hi hiN]; rfl
theorem head_behind (hN : Nms n N) (hb : Bs N bs) (h : rightP mn cn (plc N bs) = true) : befF (setL n (plc N bs)) ((settL n mn cn N).headD []) = false := by
  have hne := right_ne (n := n) hb h
  have hm : bs ∈ (sidesL N.length).filter fun bs => rightP mn cn (plc N bs) := List.mem_filter.2 ⟨Sat.mem_sidesL.2 ⟨hb.len, hb.le⟩, h⟩
  have h0 := Sat.firstS_head N.length fun bs => rightP mn cn (plc N bs)
  cases hf : (sidesL N.length).filter fun bs => rightP mn cn (plc N bs) with
  | nil => rw [hf] at hm; cases hm
  | cons fs rest =>
    rw [hf, List.head?_cons] at h0
    have hle := firstS_least h0.symm bs (Sat.mem_sidesL.2 ⟨hb.len, hb.le⟩) h
    have hfs : Bs N fs := sides_bs (List.mem_filter.1 (by rw [hf]; simp : fs ∈ (sidesL N.length).filter fun bs => rightP mn cn (plc N bs))).1
    rw [settL, hf, List.map_cons, List.headD_cons]
    exact bef_side hN hfs hb hle
theorem middle_facts (hS : Shn n mn cn) (hN : Nms n N) (b1 b2 b3 : Nat) {ms : List (Int × Int)} {cs : List Int} (hms : ms = mn.map prI) (hcs : cs = cn.map fun (c : Nat) => (c : Int)) :
    ∃ A1 A2 A3 : Bool, (settE n ms cs (sideL n N b1) = (if A1 then 0 else 18) ∧ rightI ms cs (sideL n N b1) = A1) ∧ (settE n ms cs (sideL n N b2) = (if A2 then 0 else 18) ∧ rightI ms cs (sideL n N b2) = A2) ∧ (settE n ms cs (sideL n N b3) = (if A3 then 0 else 18) ∧ rightI ms cs (sideL n N b3) = A3) ∧
      vsheet n ms cs = 0 ∧ (A1 = true → A2 = true → A3 = true → ∃ X A, (X = (List.range n).map fun i => med3 (nth (sideL n N b1) i) (nth (sideL n N b2) i) (nth (sideL n N b3) i)) ∧ settE n ms cs X = 0 ∧ settN n ms cs X = N.length ∧ setEI n ms cs (natV N) = 0 ∧ setVI n ms cs (natV N) = A ∧ A.length = n ∧ befF X A = false ∧ befF (sideL n N b1) A = false) := by
  subst hms hcs
  have hb1 := lowB_bs N b1
  have hb2 := lowB_bs N b2
  have hb3 := lowB_bs N b3
  have hr : ∀ {bs : List Nat}, Bs N bs → settE n (mn.map prI) (cn.map fun (c : Nat) => (c : Int)) (setL n (plc N bs)) = (if rightP mn cn (plc N bs) then 0 else 18) ∧ rightI (mn.map prI) (cn.map fun (c : Nat) => (c : Int)) (setL n (plc N bs)) = rightP mn cn (plc N bs) := fun hb =>
    ⟨side_E hS hN hb, rightI_nat hS (Sat.plc_one hN.nodup hb.le)⟩
  refine ⟨_, _, _, hr hb1, hr hb2, hr hb3, hS.v, fun h1 h2 h3 => ?_⟩
  have hm := med_right hb1 hb2 hb3 h1 h2 h3
  have hmb := medB_bs N hb1 hb2 hb3
  have hne := right_ne (n := n) hmb hm
  obtain ⟨bs, hbb, _, h5⟩ := head_good hne
  refine ⟨setL n (plc N (medB N.length (lowB N.length b1) (lowB N.length b2) (lowB N.length b3))), _, med_side hN hb1 hb2 hb3, (hr hmb).1.trans (if_pos hm), side_settN hS hN hmb hm, ?_, setVI_nat hS hN, ?_, head_behind hN hmb hm, head_behind hN hb1 h1⟩
  · rw [setEI_nat hS hN, setE, if_neg hne]
  · rw [h5, Sat.setL_len]
end
end Go.Proofs.Ytdhdpbnlhnodjaa
