import Derived.Test.YtdhdpbnlhnodjaaKSom
import Derived.Test.YtdhdpbnlhnodjaaKMix
/-  Plain law for NameUsed: how often a place is used, and how many settings there are with it covered. -/
namespace Go.Proofs.Ytdhdpbnlhnodjaa
open Go.RowKit
open Sat (plc setL rightP One at0 sidesL)
theorem used_kind {a b t : Nat} (h : a + b = t) (h0 : ¬ t = 0) : (kindV b t == 2) = decide (a = 0) ∧ (kindV b t == 0) = decide (b = 0) ∧ (kindV a t == 2) = decide (b = 0) ∧ (kindV a t == 0) = decide (a = 0) ∧ ((a : Int) == 0) = decide (a = 0) ∧ ((b : Int) == 0) = decide (b = 0) := by
  subst h
  refine ⟨?_, ?_, ?_, ?_, ?_, ?_⟩ <;> rw [Bool.eq_iff_iff, beq_iff_eq, decide_eq_true_iff]
  · rw [kindV]; split
    · exact ⟨fun _ => (by omega), fun _ => rfl⟩
    · split
      · exact ⟨fun h => (by cases h), fun h => (by omega)⟩
      · exact ⟨fun h => (by cases h), fun h => (by omega)⟩
  · rw [kindV]; split
    · exact ⟨fun h => (by cases h), fun h => (by omega)⟩
    · split
      · exact ⟨fun _ => (by omega), fun _ => rfl⟩
      · exact ⟨fun h => (by cases h), fun h => (by omega)⟩
  · rw [kindV]; split
    · exact ⟨fun _ => (by omega), fun _ => rfl⟩
    · split
      · exact ⟨fun h => (by cases h), fun h => (by omega)⟩
      · exact ⟨fun h => (by cases h), fun h => (by omega)⟩
  · rw [kindV]; split
    · exact ⟨fun h => (by cases h), fun h => (by omega)⟩
    · split
      · exact ⟨fun _ => (by omega), fun _ => rfl⟩
      · exact ⟨fun h => (by cases h), fun h => (by omega)⟩
  · omega
  · omega
/-- a store into a block of one's own leaves a newer list as it is -/
theorem IntsM.past {lo : Nat} {U : World} {v : Value} {xs : List Int} (h : IntsM lo U v xs) {T : Nat} (hT : T < lo) (k : Nat) (u : Value) : IntsM lo (U.setCell ⟨T, k, none⟩ u) v xs :=
  h.kept (grownBy_setCell_at U T k u) (.inr fun e => by have := (World.ownsRow.lt h _ e).1; omega)
section
variable {n : Nat} {mn : List (Nat × Nat)} {cn N bs : List Nat}
theorem plc_xor (hN : N.Nodup) (hb : Bs N bs) {p : Nat} (hp : p / 2 ∈ N) : decide (Sat.mate p ∈ plc N bs) = !decide (p ∈ plc N bs) := by
  have h1 := Sat.plc_one hN hb.le
  obtain ⟨j, hj, e⟩ := List.mem_iff_getElem.1 hp
  have hj2 : j < bs.length := by rw [hb.len]; exact hj
  have hm : 2 * N[j] + bs[j] ∈ plc N bs := Sat.plc_mem.2 ⟨j, hj, hj2, rfl⟩
  have hle := hb.le _ (List.getElem_mem hj2)
  by_cases h : p ∈ plc N bs
  · rw [decide_eq_true h, decide_eq_false (h1 p h)]; rfl
  · rw [decide_eq_false h, decide_eq_true]
    · rfl
    · rcases Sat.same_name (p := p) (q := 2 * N[j] + bs[j]) (by omega) with e2 | e2
      · rw [e2] at hm; exact absurd hm h
      · rw [e2] at hm; exact hm
theorem rightP_snoc (p : Nat) (ps : List Nat) : rightP mn (cn ++ [p]) ps = (rightP mn cn ps && !decide (p ∈ ps)) := by
  rw [rightP, rightP, List.all_append, List.all_cons, List.all_nil, Bool.and_true]
  cases (cn.all fun c => !decide (c ∈ ps)) <;> cases (!decide (p ∈ ps)) <;> simp
theorem two_filter {α : Type} (l : List α) (P Q : α → Bool) (h : ∀ x ∈ l, Q x = !P x) : (l.filter P).length + (l.filter Q).length = l.length := by
  rw [List.filter_congr h]
  induction l with
  | nil => rfl
  | cons a l ih =>
    have := ih fun x hx => h x (by simp [hx])
    cases hp : P a <;> simp [hp] <;> omega
theorem settL_len (cn N : List Nat) : (settL n mn cn N).length = ((sidesL N.length).filter fun bs => rightP mn cn (plc N bs)).length := by rw [settL, List.length_map]
theorem sides_bs {bs : List Nat} (h : bs ∈ sidesL N.length) : Bs N bs := ⟨(Sat.mem_sidesL.1 h).1, (Sat.mem_sidesL.1 h).2⟩
theorem cntK_len (hN : Nms n N) {p : Nat} (hp : p < 2 * n) : cntK (settL n mn cn N) (p : Int) = (((sidesL N.length).filter fun bs => rightP mn cn (plc N bs)).filter fun bs => decide (p ∈ plc N bs)).length := by
  rw [cntK, settL, List.filter_map, List.length_map]
  congr 1
  refine List.filter_congr fun bs hbs => ?_
  exact sideB_nat (Sat.plc_one hN.nodup (sides_bs (List.mem_filter.1 hbs).1).le) hp
/-- the settings that use a place, and those that there are with it covered, are all -/
theorem cover_len (hN : Nms n N) {p : Nat} (hp : p < 2 * n) : cntK (settL n mn cn N) (p : Int) + (settL n mn (cn ++ [p]) N).length = (settL n mn cn N).length := by
  rw [cntK_len hN hp, settL_len, settL_len]
  rw [show ((sidesL N.length).filter fun bs => rightP mn (cn ++ [p]) (plc N bs)) = ((sidesL N.length).filter fun bs => rightP mn cn (plc N bs)).filter fun bs => !decide (p ∈ plc N bs) by
    rw [List.filter_filter]; exact List.filter_congr fun bs _ => by rw [rightP_snoc, Bool.and_comm]]
  exact two_filter _ _ _ fun _ _ => rfl
theorem mate_len (hN : Nms n N) {p : Nat} (hp : p < 2 * n) (hpN : p / 2 ∈ N) : cntK (settL n mn cn N) (p : Int) + cntK (settL n mn cn N) (Sat.mate p : Nat) = (settL n mn cn N).length := by
  rw [cntK_len hN hp, cntK_len hN (by have := Sat.mate_div p; omega), settL_len]
  exact two_filter _ _ _ fun bs hbs => plc_xor hN.nodup (sides_bs (List.mem_filter.1 hbs).1) hpN
theorem settL_le (hS : Shn n mn cn) (hN : Nms n N) : (settL n mn cn N).length ≤ 1024 := by
  rw [← outF_all]
  exact Nat.le_trans (outF_len _ _ _ _ _) (Nat.pow_le_pow_right (n := 2) (by decide) (Nat.le_trans hN.len hS.n10))
theorem Shn.cover (hS : Shn n mn cn) {p : Nat} (hp : p < 2 * n) (hl : cn.length < 20) : Shn n mn (cn ++ [p]) :=
  ⟨hS.n1, hS.n10, hS.ml, by simp; omega, hS.mr, hS.ne, fun c hc => by
    rcases List.mem_append.1 hc with h | h
    · exact hS.cr c h
    · rw [List.mem_singleton.1 h]; exact hp⟩
theorem settL_none (mn : List (Nat × Nat)) (cn : List Nat) : (settL n mn cn []).length = 1 := by
  rw [settL_len]; simp [sidesL, rightP, plc]
theorem used_facts (hS : Shn n mn cn) (hN : Nms n N) {p : Nat} (hp : p < 2 * n) (hpN : p / 2 ∈ N) (hl : cn.length < 20) {ms : List (Int × Int)} {cs : List Int} (hms : ms = mn.map prI) (hcs : cs = cn.map fun (c : Nat) => (c : Int)) :
    ∃ a b : Nat, cntVI n ms (cs ++ [(p : Int)]) (natV N) = a ∧ cntVI n ms (cs ++ [((Sat.mate p : Nat) : Int)]) (natV N) = b ∧ nameE n ms (cs ++ [(p : Int)]) (natV N) = 0 ∧ nameE n ms (cs ++ [((Sat.mate p : Nat) : Int)]) (natV N) = 0 ∧
      cntVI n ms cs (natV N) = (a + b : Nat) ∧ a + b ≤ 1024 ∧ nameE n ms cs (natV N) = 0 ∧
      kindEI n ms cs (natV N) p = (if a + b = 0 then 18 else 0) ∧ kindEI n ms cs (natV N) (Sat.mate p : Nat) = (if a + b = 0 then 18 else 0) ∧
      kindNI n ms cs (natV N) p = (if a + b = 0 then 0 else kindV b (a + b)) ∧ kindNI n ms cs (natV N) (Sat.mate p : Nat) = (if a + b = 0 then 0 else kindV a (a + b)) := by
  subst hms hcs
  have hq : Sat.mate p < 2 * n := by have := Sat.mate_div p; omega
  have hqN : Sat.mate p / 2 ∈ N := by rw [Sat.mate_div]; exact hpN
  have hS1 := hS.cover hp hl
  have hS2 := hS.cover hq hl
  have e1 : ∀ p : Nat, (cn.map fun (c : Nat) => (c : Int)) ++ [(p : Int)] = (cn ++ [p]).map fun (c : Nat) => (c : Int) := fun p => by simp
  have c1 := cover_len (mn := mn) (cn := cn) hN hp
  have c2 := cover_len (mn := mn) (cn := cn) hN hq
  have m1 := mate_len (mn := mn) (cn := cn) hN hp hpN
  have hk : ∀ p : Nat, p < 2 * n → p / 2 ∈ N → kindEI n (mn.map prI) (cn.map fun (c : Nat) => (c : Int)) (natV N) p = kindE n (natV N) p (settL n mn cn N) ∧ kindNI n (mn.map prI) (cn.map fun (c : Nat) => (c : Int)) (natV N) p = kindN n (natV N) p (settL n mn cn N) := fun p _ _ => by
    rw [kindEI, kindNI, natV, if_pos (nameE_nat hS hN), if_pos (nameE_nat hS hN), settI_eq]; exact ⟨rfl, rfl⟩
  have hE : ∀ p : Nat, p < 2 * n → p / 2 ∈ N → kindE n (natV N) p (settL n mn cn N) = (if (settL n mn cn N).length = 0 then 18 else 0) := fun p _ hpN => by
    rw [kindE, show kindB n (natV N) (p : Int) = true from (kindB_nat hN).2 hpN]
    by_cases h0 : settL n mn cn N = []
    · simp [h0, setE]
    · simp [h0, setE]
  have hV : ∀ p : Nat, p < 2 * n → p / 2 ∈ N → kindN n (natV N) p (settL n mn cn N) = (if (settL n mn cn N).length = 0 then 0 else kindV (cntK (settL n mn cn N) p) (settL n mn cn N).length) := fun p _ hpN => by
    rw [kindN, show kindB n (natV N) (p : Int) = true from (kindB_nat hN).2 hpN]
    by_cases h0 : settL n mn cn N = []
    · simp [h0, cntV]
    · simp [h0, cntV]
  refine ⟨(settL n mn (cn ++ [p]) N).length, (settL n mn (cn ++ [Sat.mate p]) N).length, ?_, ?_, ?_, ?_, ?_, ?_, ?_, ?_, ?_, ?_, ?_⟩
  · rw [e1, cntVI_nat hS1 hN]
  · rw [e1, cntVI_nat hS2 hN]
  · rw [e1]; exact nameE_nat hS1 hN
  · rw [e1]; exact nameE_nat hS2 hN
  · rw [cntVI_nat hS hN]; congr 1; omega
  · have := settL_le hS hN; omega
  · exact nameE_nat hS hN
  · rw [(hk p hp hpN).1, hE p hp hpN]; congr 1; simp only [eq_iff_iff]; omega
  · rw [(hk _ hq hqN).1, hE _ hq hqN]; congr 1; simp only [eq_iff_iff]; omega
  · rw [(hk p hp hpN).2, hV p hp hpN, show cntK (settL n mn cn N) (p : Int) = (settL n mn (cn ++ [Sat.mate p]) N).length by omega, show (settL n mn (cn ++ [p]) N).length + (settL n mn (cn ++ [Sat.mate p]) N).length = (settL n mn cn N).length by omega]
  · rw [(hk _ hq hqN).2, hV _ hq hqN, show cntK (settL n mn cn N) ((Sat.mate p : Nat) : Int) = (settL n mn (cn ++ [p]) N).length by omega, show (settL n mn (cn ++ [p]) N).length + (settL n mn (cn ++ [Sat.mate p]) N).length = (settL n mn cn N).length by omega]
end
end Go.Proofs.Ytdhdpbnlhnodjaa
