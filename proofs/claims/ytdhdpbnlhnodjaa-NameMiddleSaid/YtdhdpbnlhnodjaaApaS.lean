import Derived.Test.YtdhdpbnlhnodjaaFewS
/-  Plain law for NameApart: two sheets beside each other. -/
namespace Go.Proofs.Ytdhdpbnlhnodjaa
open Go.RowKit
open Sat (cntF mostF meetP Turn Apart)
theorem Sat.mostF_le (L : Sat.Lay) : ∀ (N used : List Nat), Sat.mostF L N used ≤ N.length
  | [], _ => by rw [Sat.mostF]; exact Nat.zero_le _
  | n :: ns, used => by
    have h := fun u => Sat.mostF_le L ns u
    have a1 : ∀ (b : Bool) (x : Nat), Sat.addIf b x ≤ x := fun b x => by cases b <;> simp [Sat.addIf]
    rw [Sat.mostF_cons, List.length_cons]
    have h0 := h used
    have h1 := Nat.le_trans (a1 (Sat.free L (2 * n) used) _) (Nat.add_le_add_left (h (used ++ [2 * n])) 1)
    have h2 := Nat.le_trans (a1 (Sat.free L (2 * n + 1) used) _) (Nat.add_le_add_left (h (used ++ [2 * n + 1])) 1)
    exact Nat.max_le.2 ⟨Nat.max_le.2 ⟨by omega, by omega⟩, by omega⟩
def shM (k : Nat) (m : Nat × Nat) : Nat × Nat := (m.1 + 2 * k, m.2 + 2 * k)
section
variable {n1 n2 : Nat} {m1 m2 : List (Nat × Nat)} {c1 c2 : List Nat}
theorem low_meet {p q : Nat} (hp : p / 2 < n1) : meetP (m1 ++ m2.map (shM n1)) p q = meetP m1 p q := by
  rw [meetP, List.any_append, ← meetP]
  have : ((m2.map (shM n1)).any fun m => (m.1 == p && m.2 == q) || (m.1 == q && m.2 == p)) = false := by
    rw [List.any_eq_false]
    intro m hm hc
    obtain ⟨x, hx, rfl⟩ := List.mem_map.1 hm
    simp only [Bool.or_eq_true, Bool.and_eq_true, beq_iff_eq, shM] at hc
    omega
  rw [this, Bool.or_false]
theorem high_meet (h1 : Shn n1 m1 c1) {p q : Nat} : meetP (m1 ++ m2.map (shM n1)) (p + 2 * n1) (q + 2 * n1) = meetP m2 p q := by
  rw [meetP, List.any_append]
  have : (m1.any fun m => (m.1 == p + 2 * n1 && m.2 == q + 2 * n1) || (m.1 == q + 2 * n1 && m.2 == p + 2 * n1)) = false := by
    rw [List.any_eq_false]
    intro m hm hc
    have := h1.mr m hm
    simp only [Bool.or_eq_true, Bool.and_eq_true, beq_iff_eq] at hc
    omega
  rw [this, Bool.false_or, meetP, List.any_map]
  congr 1
  funext m
  have e : ∀ a b : Nat, (a + 2 * n1 == b + 2 * n1) = (a == b) := fun a b => by rw [Bool.eq_iff_iff, beq_iff_eq, beq_iff_eq]; omega
  simp [shM, e]
theorem cross_meet (h1 : Shn n1 m1 c1) {p q : Nat} (hp : p / 2 < n1) (hq : n1 ≤ q / 2) : meetP (m1 ++ m2.map (shM n1)) p q = false := by
  rw [low_meet hp, meetP, List.any_eq_false]
  intro m hm hc
  have := h1.mr m hm
  simp only [Bool.or_eq_true, Bool.and_eq_true, beq_iff_eq] at hc
  omega
theorem turn_low (h1 : Shn n1 m1 c1) (hX : Shn (n1 + n2) (m1 ++ m2.map (shM n1)) (c1 ++ c2.map (· + 2 * n1))) : Turn h1.lay hX.lay (List.range n1) id id where
  side n _ := .inl ⟨rfl, rfl⟩
  meet p q hp _ := low_meet (List.mem_range.1 hp)
  cov p hp := by
    show (c1 ++ c2.map (· + 2 * n1)).contains p = c1.contains p
    have := List.mem_range.1 hp
    rw [Bool.eq_iff_iff, List.contains_iff_mem, List.contains_iff_mem, List.mem_append]
    exact ⟨fun h => h.elim id fun h => by obtain ⟨x, _, h⟩ := List.mem_map.1 h; omega, .inl⟩
theorem turn_high (h1 : Shn n1 m1 c1) (h2 : Shn n2 m2 c2) (hX : Shn (n1 + n2) (m1 ++ m2.map (shM n1)) (c1 ++ c2.map (· + 2 * n1))) : Turn h2.lay hX.lay (List.range n2) (· + 2 * n1) (n1 + ·) where
  side n _ := .inl ⟨by show 2 * n + 2 * n1 = 2 * (n1 + n); omega, by show 2 * n + 1 + 2 * n1 = 2 * (n1 + n) + 1; omega⟩
  meet p q _ _ := high_meet h1
  cov p _ := by
    show (c1 ++ c2.map (· + 2 * n1)).contains (p + 2 * n1) = c2.contains p
    rw [Bool.eq_iff_iff, List.contains_iff_mem, List.contains_iff_mem, List.mem_append]
    constructor
    · rintro (h | h)
      · have := h1.cr _ h; omega
      · obtain ⟨x, hx, h⟩ := List.mem_map.1 h
        obtain rfl : x = p := by omega
        exact hx
    · exact fun h => .inr (List.mem_map.2 ⟨p, h, rfl⟩)
theorem range_two (a b : Nat) : List.range (a + b) = List.range a ++ (List.range b).map (a + ·) := List.range_add
theorem sheets_apart (h1 : Shn n1 m1 c1) (_ : Shn n2 m2 c2) (hX : Shn (n1 + n2) (m1 ++ m2.map (shM n1)) (c1 ++ c2.map (· + 2 * n1))) : Apart hX.lay (List.range n1) ((List.range n2).map (n1 + ·)) := fun p q hp hq => by
  obtain ⟨x, _, h⟩ := List.mem_map.1 hq
  exact cross_meet h1 (List.mem_range.1 hp) (by omega)
theorem apart_cnt (h1 : Shn n1 m1 c1) (h2 : Shn n2 m2 c2) (hX : Shn (n1 + n2) (m1 ++ m2.map (shM n1)) (c1 ++ c2.map (· + 2 * n1))) : cntF hX.lay (List.range (n1 + n2)) [] = cntF h1.lay (List.range n1) [] * cntF h2.lay (List.range n2) [] := by
  rw [range_two, Sat.cnt_app (sheets_apart h1 h2 hX)]
  have e1 := (turn_low h1 hX).cnt (M := List.range n1) (used := []) (fun _ h => h) (fun _ h => absurd h (by simp))
  have e2 := (turn_high h1 h2 hX).cnt (M := List.range n2) (used := []) (fun _ h => h) (fun _ h => absurd h (by simp))
  rw [List.map_id, List.map_nil] at e1
  rw [List.map_nil] at e2
  rw [e1, e2]
theorem apart_most (h1 : Shn n1 m1 c1) (h2 : Shn n2 m2 c2) (hX : Shn (n1 + n2) (m1 ++ m2.map (shM n1)) (c1 ++ c2.map (· + 2 * n1))) : mostF hX.lay (List.range (n1 + n2)) [] = mostF h1.lay (List.range n1) [] + mostF h2.lay (List.range n2) [] := by
  rw [range_two, Sat.most_app (sheets_apart h1 h2 hX)]
  have e1 := (turn_low h1 hX).most (M := List.range n1) (used := []) (fun _ h => h) (fun _ h => absurd h (by simp))
  have e2 := (turn_high h1 h2 hX).most (M := List.range n2) (used := []) (fun _ h => h) (fun _ h => absurd h (by simp))
  rw [List.map_id, List.map_nil] at e1
  rw [List.map_nil] at e2
  rw [e1, e2]
theorem range_nms (n : Nat) : Nms n (List.range n) := ⟨List.pairwise_lt_range, fun _ h => List.mem_range.1 h⟩
/-- all names, by bits -/
theorem some_all {n : Nat} (hn : n ≤ 10) : someN n 1023 = List.range n := by
  rw [someN, List.filter_eq_self]
  intro i hi
  have h : i < 10 := Nat.lt_of_lt_of_le (List.mem_range.1 hi) hn
  have : ∀ i : Fin 10, (bitB 1023 i == 1) = true := by decide
  exact this ⟨i, h⟩
theorem cnt_most {n : Nat} {mn : List (Nat × Nat)} {cn : List Nat} (hS : Shn n mn cn) : cntVI n (mn.map prI) (cn.map fun (c : Nat) => (c : Int)) (natV (List.range n)) = (cntF hS.lay (List.range n) [] : Nat) ∧ mostVI n (mn.map prI) (cn.map fun (c : Nat) => (c : Int)) = (mostF hS.lay (List.range n) [] : Nat) := by
  constructor
  · rw [cntVI_nat hS (range_nms n), len_cntF hS]
  · rw [mostVI, if_pos hS.v, layI_eq hS, Int.toNat_natCast]
theorem apart_facts (h1 : Shn n1 m1 c1) (h2 : Shn n2 m2 c2) (hX : Shn (n1 + n2) (m1 ++ m2.map (shM n1)) (c1 ++ c2.map (· + 2 * n1))) {M1 M2 MX : List (Int × Int)} {C1 C2 CX : List Int} (e1 : M1 = m1.map prI) (e2 : M2 = m2.map prI) (eX : MX = (m1 ++ m2.map (shM n1)).map prI)
    (f1 : C1 = c1.map fun (c : Nat) => (c : Int)) (f2 : C2 = c2.map fun (c : Nat) => (c : Int)) (fX : CX = (c1 ++ c2.map (· + 2 * n1)).map fun (c : Nat) => (c : Int)) :
    ∃ a b k m : Nat, a ≤ 1024 ∧ b ≤ 1024 ∧ cntVI n1 M1 C1 (natV (List.range n1)) = a ∧ cntVI n2 M2 C2 (natV (List.range n2)) = b ∧ cntVI (n1 + n2 : Nat) MX CX (natV (List.range (n1 + n2))) = (a * b : Nat) ∧
      nameE n1 M1 C1 (natV (List.range n1)) = 0 ∧ nameE n2 M2 C2 (natV (List.range n2)) = 0 ∧ nameE (n1 + n2 : Nat) MX CX (natV (List.range (n1 + n2))) = 0 ∧
      mostVI n1 M1 C1 = k ∧ mostVI n2 M2 C2 = m ∧ mostVI (n1 + n2 : Nat) MX CX = (k + m : Nat) ∧ k ≤ 10 ∧ m ≤ 10 ∧ vsheet n1 M1 C1 = 0 ∧ vsheet n2 M2 C2 = 0 ∧ vsheet (n1 + n2 : Nat) MX CX = 0 := by
  subst e1 e2 eX f1 f2 fX
  have le : ∀ {n : Nat} {mn : List (Nat × Nat)} {cn : List Nat} (h : Shn n mn cn), mostF h.lay (List.range n) [] ≤ 10 := fun {n _ _} h => by
    have := Sat.mostF_le h.lay (List.range n) []
    rw [List.length_range] at this
    exact Nat.le_trans this h.n10
  refine ⟨_, _, _, _, ?_, ?_, (cnt_most h1).1, (cnt_most h2).1, ?_, nameE_nat h1 (range_nms _), nameE_nat h2 (range_nms _), nameE_nat hX (range_nms _), (cnt_most h1).2, (cnt_most h2).2, ?_, le h1, le h2, h1.v, h2.v, hX.v⟩
  · rw [← len_cntF]; exact settL_le h1 (range_nms _)
  · rw [← len_cntF]; exact settL_le h2 (range_nms _)
  · rw [(cnt_most hX).1, apart_cnt h1 h2 hX]
  · rw [(cnt_most hX).2, apart_most h1 h2 hX]
end
end Go.Proofs.Ytdhdpbnlhnodjaa
