import Derived.Test.YtdhdpbnlhnodjaaApaS
/-  Plain law for NameBright: the brightest names. -/
namespace Go.Proofs.Ytdhdpbnlhnodjaa
open Go.RowKit
open Sat (cntF mostF plc sidesL brightF triF okF)
theorem sub_tri {G ns : List Nat} (h : G.Sublist ns) : ∀ {bs : List Nat}, bs.length = G.length → (∀ b ∈ bs, b ≤ 1) → plc G bs ∈ triF ns := by
  induction h with
  | slnil => intro bs h1 _; simp [plc, triF]
  | cons a _ ih => exact fun h1 h2 => Sat.mem_tri_cons.2 (.inl (ih h1 h2))
  | cons_cons a _ ih =>
    intro bs h1 h2
    cases bs with
    | nil => cases h1
    | cons b bs => exact Sat.mem_tri_cons.2 (.inr ⟨b, h2 b (by simp), _, ih (by simpa using h1) fun c hc => h2 c (by simp [hc]), rfl⟩)
section
variable {n : Nat} {mn : List (Nat × Nat)} {cn G : List Nat}
theorem can_most {L : Sat.Lay} (hG : Nms n G) (h : Sat.Can L G []) : G.length ≤ mostF L (List.range n) [] := by
  have hlen := cnt_range n G hG (fun i => decide (i ∈ G)) (fun i _ => by simp)
  obtain ⟨F, hF⟩ : ∃ F, (List.range n).filter (fun i => decide (i ∈ G)) = F := ⟨_, rfl⟩
  rw [hF] at hlen
  have hsub : F.Sublist (List.range n) := by rw [← hF]; exact List.filter_sublist
  have hc : Sat.Can L F [] := h.fewer fun x hx => by rw [← hF] at hx; exact of_decide_eq_true (List.mem_filter.1 hx).2
  obtain ⟨bs, hb, ho, _⟩ := (Sat.can_sides (List.Pairwise.sublist hsub List.nodup_range)).1 hc
  obtain ⟨b1, b2⟩ := Sat.mem_sidesL.1 hb
  have := Sat.mostF_ge L (List.range n) [] _ (sub_tri hsub b1 b2) ho
  rw [show (plc F bs).length = F.length by simp [plc, b1]] at this
  omega
theorem set_can (hS : Shn n mn cn) (hG : Nms n G) : setEI n (mn.map prI) (cn.map fun (c : Nat) => (c : Int)) (natV G) = 0 ∧ Sat.Can hS.lay G [] ∨ setEI n (mn.map prI) (cn.map fun (c : Nat) => (c : Int)) (natV G) = 18 ∧ ¬ Sat.Can hS.lay G [] := by
  rw [setEI_nat hS hG, setE]
  have h1 : settL n mn cn G = [] ↔ ¬ Sat.Can hS.lay G [] := by
    rw [Sat.can_cnt hG.nodup, ← len_cntF hS, ← List.length_eq_zero_iff]; omega
  by_cases h : settL n mn cn G = []
  · exact .inr ⟨if_pos h, h1.1 h⟩
  · exact .inl ⟨if_neg h, Classical.byContradiction fun e => h (h1.2 e)⟩
theorem bright_facts (hS : Shn n mn cn) {ms : List (Int × Int)} {cs : List Int} (hms : ms = mn.map prI) (hcs : cs = cn.map fun (c : Nat) => (c : Int)) :
    ∃ m : Nat, brtVI n ms cs = natV (brightF hS.lay n) ∧ nameE n ms cs (natV (brightF hS.lay n)) = 0 ∧ mostVI n ms cs = m ∧ vsheet n ms cs = 0 ∧ (brightF hS.lay n).length ≤ m ∧ m ≤ n ∧ setEI n ms cs (natV (brightF hS.lay n)) = 0 ∧
      (∀ i, i < n → i ∈ brightF hS.lay n → whyEI n ms cs i = 5 ∧ brightF hS.lay (i + 1) = brightF hS.lay i ++ [i]) ∧
      (∀ i, i < n → ¬ i ∈ brightF hS.lay n → whyEI n ms cs i = 0 ∧ whyVI n ms cs i = natV (brightF hS.lay i ++ [i]) ∧ brightF hS.lay (i + 1) = brightF hS.lay i ∧ setEI n ms cs (natV (brightF hS.lay i ++ [i])) = 18) ∧
      (∀ G, Nms n G → setEI n ms cs (natV G) = 0 → G.length ≤ m ∧ ∀ i, i < n → (∀ j, j < i → (j ∈ G ↔ j ∈ brightF hS.lay n)) → i ∈ G → i ∈ brightF hS.lay n) := by
  subst hms hcs
  have hB : Nms n (brightF hS.lay n) := ⟨Sat.brightF_sorted _ _, fun k hk => Sat.brightF_lt _ _ k hk⟩
  have hE : ∀ i, i < n → (brightF hS.lay (i + 1) = brightF hS.lay i ++ [i] ∧ i ∈ brightF hS.lay n ∧ Sat.Can hS.lay (brightF hS.lay i ++ [i]) []) ∨ (brightF hS.lay (i + 1) = brightF hS.lay i ∧ ¬ i ∈ brightF hS.lay n ∧ ¬ Sat.Can hS.lay (brightF hS.lay i ++ [i]) []) := fun i hi => by
    by_cases h : Sat.Can hS.lay (brightF hS.lay i ++ [i]) []
    · exact .inl ⟨by rw [brightF, if_pos h], (Sat.brightF_mem _ hi).2 h, h⟩
    · exact .inr ⟨by rw [brightF, if_neg h], fun e => h ((Sat.brightF_mem _ hi).1 e), h⟩
  have hw : ∀ i : Nat, i < n → whyEI n (mn.map prI) (cn.map fun (c : Nat) => (c : Int)) i = if i ∈ brightF hS.lay n then 5 else 0 := fun i hi => by
    rw [whyEI, if_pos hS.v, if_neg (by omega), layI_eq hS, Int.toNat_natCast, Int.toNat_natCast]
  refine ⟨_, by rw [brtVI, if_pos hS.v, layI_eq hS, Int.toNat_natCast], nameE_nat hS hB, (cnt_most hS).2, hS.v, can_most hB (Sat.brightF_can _ _), by have := Sat.mostF_le hS.lay (List.range n) []; rwa [List.length_range] at this, ?_, ?_, ?_, ?_⟩
  · rcases set_can hS hB with h | h
    · exact h.1
    · exact absurd (Sat.brightF_can _ _) h.2
  · intro i hi h
    rcases hE i hi with h1 | h1
    · exact ⟨by rw [hw i hi, if_pos h], h1.1⟩
    · exact absurd h h1.2.1
  · intro i hi h
    rcases hE i hi with h1 | h1
    · exact absurd h1.2.1 h
    · have hw0 : whyEI n (mn.map prI) (cn.map fun (c : Nat) => (c : Int)) i = 0 := by rw [hw i hi, if_neg h]
      refine ⟨hw0, by rw [whyVI, if_pos hw0, layI_eq hS, Int.toNat_natCast], h1.1, ?_⟩
      rcases set_can hS (bright_nms (L := hS.lay) (k := i) hi) with h2 | h2
      · exact absurd h2.2 h1.2.2
      · exact h2.1
  · intro G hG h0
    rcases set_can hS hG with h | h
    · refine ⟨can_most hG h.2, fun i hi hj hiG => ?_⟩
      rcases hE i hi with h1 | h1
      · exact h1.2.1
      · refine absurd (h.2.fewer fun x hx => ?_) h1.2.2
        rcases List.mem_append.1 hx with hx | hx
        · have hlt := Sat.brightF_lt _ _ x hx
          refine (hj x hlt).2 ?_
          rw [← Sat.brightF_take hS.lay (Nat.le_of_lt hi)] at hx
          exact (List.mem_filter.1 hx).1
        · rw [List.mem_singleton.1 hx]; exact hiG
    · rw [h.1] at h0; cases h0
end
end Go.Proofs.Ytdhdpbnlhnodjaa
