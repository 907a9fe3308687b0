import Derived.Test.YtdhdpbnlhnodjaaApaS
/-  Plain law for NameTurned: sides of a name exchanged, and names numbered from the other end. -/
namespace Go.Proofs.Ytdhdpbnlhnodjaa
open Go.RowKit
open Sat (cntF mostF meetP Turn layS mate plc setL sidesL)
def turnP (k p : Nat) : Nat := if p / 2 = k then mate p else p
def backP (n p : Nat) : Nat := 2 * (n - 1 - p / 2) + p % 2
/-- places that are named otherwise, name by name -/
structure Move (n : Nat) (f g : Nat → Nat) : Prop where
  half : ∀ p, p < 2 * n → f p / 2 = g (p / 2)
  lt : ∀ i, i < n → g i < n
  inj : ∀ p q, p < 2 * n → q < 2 * n → f p = f q → p = q
  ginj : ∀ i j, i < n → j < n → g i = g j → i = j
  side : ∀ i, i < n → (f (2 * i) = 2 * g i ∧ f (2 * i + 1) = 2 * g i + 1) ∨ (f (2 * i) = 2 * g i + 1 ∧ f (2 * i + 1) = 2 * g i)
theorem move_turn (n k : Nat) : Move n (turnP k) id where
  half p _ := by
    show turnP k p / 2 = p / 2
    rw [turnP]; split
    · exact Sat.mate_div p
    · rfl
  lt _ h := h
  inj p q _ _ h := by
    have e : ∀ p, turnP k (turnP k p) = p := fun p => by
      by_cases h1 : p / 2 = k
      · rw [turnP, turnP, if_pos h1, if_pos (by rw [Sat.mate_div]; exact h1), Sat.mate_mate]
      · rw [turnP, turnP, if_neg h1, if_neg h1]
    rw [← e p, ← e q, h]
  ginj _ _ _ _ h := h
  side i _ := by
    by_cases h : i = k
    · right
      refine ⟨?_, ?_⟩
      · rw [turnP, if_pos (by omega), Sat.mate_two]; rfl
      · rw [turnP, if_pos (by omega), Sat.mate_odd]; rfl
    · left
      refine ⟨?_, ?_⟩
      · rw [turnP, if_neg (by omega)]; rfl
      · rw [turnP, if_neg (by omega)]; rfl
theorem move_back (n : Nat) : Move n (backP n) (n - 1 - ·) where
  half p h := by show backP n p / 2 = n - 1 - p / 2; rw [backP]; omega
  lt i h := by show n - 1 - i < n; omega
  inj p q hp hq h := by rw [backP, backP] at h; omega
  ginj i j hi hj h := by have h : n - 1 - i = n - 1 - j := h; omega
  side i h := .inl ⟨by show backP n (2 * i) = 2 * (n - 1 - i); rw [backP]; omega, by show backP n (2 * i + 1) = 2 * (n - 1 - i) + 1; rw [backP]; omega⟩
section
variable {n : Nat} {f g : Nat → Nat} {mn : List (Nat × Nat)} {cn N M : List Nat}
def mapM (f : Nat → Nat) (mn : List (Nat × Nat)) : List (Nat × Nat) := mn.map fun m => (f m.1, f m.2)
theorem Move.flt (h : Move n f g) {p : Nat} (hp : p < 2 * n) : f p < 2 * n := by
  have h1 := h.half p hp
  have h2 := h.lt (p / 2) (by omega)
  omega
theorem Move.shn (h : Move n f g) (hS : Shn n mn cn) : Shn n (mapM f mn) (cn.map f) :=
  ⟨hS.n1, hS.n10, by rw [mapM, List.length_map]; exact hS.ml, by rw [List.length_map]; exact hS.cl, fun m hm => by
    obtain ⟨x, hx, rfl⟩ := List.mem_map.1 hm
    have := hS.mr x hx
    exact ⟨h.flt this.1, h.flt this.2⟩, fun m hm => by
    obtain ⟨x, hx, rfl⟩ := List.mem_map.1 hm
    have h1 := hS.mr x hx
    have h2 := hS.ne x hx
    show f x.1 / 2 ≠ f x.2 / 2
    rw [h.half _ h1.1, h.half _ h1.2]
    exact fun e => h2 (h.ginj _ _ (by omega) (by omega) e), fun c hc => by
    obtain ⟨x, hx, rfl⟩ := List.mem_map.1 hc
    exact h.flt (hS.cr x hx)⟩
theorem Move.turn (h : Move n f g) (hS : Shn n mn cn) {cx : List Nat} (hcx : ∀ c ∈ cx, c < 2 * n) (hX : ∀ m ∈ mapM f mn, m.1 / 2 ≠ m.2 / 2) : Turn (layS mn cx hS.ne) (layS (mapM f mn) (cx.map f) hX) (List.range n) f g where
  side i hi := h.side i (List.mem_range.1 hi)
  meet p q hp hq := by
    have hp := List.mem_range.1 hp
    have hq := List.mem_range.1 hq
    show meetP (mapM f mn) (f p) (f q) = meetP mn p q
    rw [meetP, mapM, List.any_map, meetP, Bool.eq_iff_iff, List.any_eq_true, List.any_eq_true]
    have key : ∀ m ∈ mn, ((f m.1 = f p ↔ m.1 = p) ∧ (f m.2 = f q ↔ m.2 = q)) ∧ ((f m.1 = f q ↔ m.1 = q) ∧ (f m.2 = f p ↔ m.2 = p)) := fun m hm => by
      have hr := hS.mr m hm
      exact ⟨⟨⟨h.inj _ _ hr.1 (by omega), fun e => by rw [e]⟩, ⟨h.inj _ _ hr.2 (by omega), fun e => by rw [e]⟩⟩, ⟨⟨h.inj _ _ hr.1 (by omega), fun e => by rw [e]⟩, ⟨h.inj _ _ hr.2 (by omega), fun e => by rw [e]⟩⟩⟩
    constructor
    · rintro ⟨m, hm, e⟩
      have hk := key m hm
      refine ⟨m, hm, ?_⟩
      simp only [Function.comp, Bool.or_eq_true, Bool.and_eq_true, beq_iff_eq, hk.1.1, hk.1.2, hk.2.1, hk.2.2] at e ⊢
      exact e
    · rintro ⟨m, hm, e⟩
      have hk := key m hm
      refine ⟨m, hm, ?_⟩
      simp only [Function.comp, Bool.or_eq_true, Bool.and_eq_true, beq_iff_eq, hk.1.1, hk.1.2, hk.2.1, hk.2.2] at e ⊢
      exact e
  cov p hp := by
    have hp := List.mem_range.1 hp
    show (cx.map f).contains (f p) = cx.contains p
    rw [Bool.eq_iff_iff, List.contains_iff_mem, List.contains_iff_mem]
    exact ⟨fun e => by
      obtain ⟨x, hx, e⟩ := List.mem_map.1 e
      obtain rfl := h.inj _ _ (hcx x hx) (by omega) e
      exact hx, fun e => List.mem_map.2 ⟨p, e, rfl⟩⟩
theorem len_layS (h : ∀ m ∈ mn, m.1 / 2 ≠ m.2 / 2) (cx N : List Nat) : (settL n mn cx N).length = cntF (layS mn cx h) N [] := by
  rw [settL_len, Sat.cntF_len]
  congr 1
  exact List.filter_congr fun bs _ => (Sat.okF_rightP h _).symm
theorem Move.len (h : Move n f g) (hS : Shn n mn cn) {cx : List Nat} (hcx : ∀ c ∈ cx, c < 2 * n) (hN : Nms n N) (hM : M.Perm (N.map g)) : (settL n (mapM f mn) (cx.map f) M).length = (settL n mn cx N).length := by
  have hX := (h.shn hS).ne
  rw [len_layS hX, len_layS hS.ne, Sat.cntF_perm hM]
  have e := (h.turn hS hcx hX).cnt (M := N) (used := []) (fun i hi => List.mem_range.2 (hN.lt i hi)) (fun _ h => absurd h (by simp))
  rw [List.map_nil] at e
  exact e
theorem Move.cntK (h : Move n f g) (hS : Shn n mn cn) (hN : Nms n N) (hM : M.Perm (N.map g)) (hM2 : Nms n M) {p : Nat} (hp : p < 2 * n) : cntK (settL n (mapM f mn) (cn.map f) M) ((f p : Nat) : Int) = cntK (settL n mn cn N) (p : Int) := by
  have e1 := cover_len (mn := mapM f mn) (cn := cn.map f) hM2 (h.flt hp)
  have e2 := cover_len (mn := mn) (cn := cn) hN hp
  rw [show cn.map f ++ [f p] = (cn ++ [p]).map f by simp] at e1
  rw [h.len hS (cx := cn ++ [p]) (fun c hc => by
    rcases List.mem_append.1 hc with h1 | h1
    · exact hS.cr c h1
    · rw [List.mem_singleton.1 h1]; exact hp) hN hM, h.len hS hS.cr hN hM] at e1
  omega
theorem kindB_prop (hN : Nms n N) (p : Nat) : kindB n (natV N) (p : Int) = decide (p / 2 ∈ N) := by
  by_cases h : p / 2 ∈ N
  · rw [decide_eq_true h]; exact (kindB_nat hN).2 h
  · rw [decide_eq_false h]
    cases hk : kindB n (natV N) (p : Int)
    · rfl
    · exact absurd ((kindB_nat hN).1 hk) h
theorem Move.kind (h : Move n f g) (hS : Shn n mn cn) (hN : Nms n N) (hM : M.Perm (N.map g)) (hM2 : Nms n M) {p : Nat} (hp : p < 2 * n) :
    kindEI n ((mapM f mn).map prI) ((cn.map f).map fun (c : Nat) => (c : Int)) (natV M) ((f p : Nat) : Int) = kindEI n (mn.map prI) (cn.map fun (c : Nat) => (c : Int)) (natV N) (p : Int) ∧
    kindNI n ((mapM f mn).map prI) ((cn.map f).map fun (c : Nat) => (c : Int)) (natV M) ((f p : Nat) : Int) = kindNI n (mn.map prI) (cn.map fun (c : Nat) => (c : Int)) (natV N) (p : Int) := by
  have hX := h.shn hS
  have hk : ∀ {mn : List (Nat × Nat)} {cn N : List Nat} (p : Nat), Shn n mn cn → Nms n N → kindEI n (mn.map prI) (cn.map fun (c : Nat) => (c : Int)) (natV N) p = kindE n (natV N) p (settL n mn cn N) ∧ kindNI n (mn.map prI) (cn.map fun (c : Nat) => (c : Int)) (natV N) p = kindN n (natV N) p (settL n mn cn N) := fun p hS hN => by
    rw [kindEI, kindNI, natV, if_pos (nameE_nat hS hN), if_pos (nameE_nat hS hN), settI_eq]; exact ⟨rfl, rfl⟩
  have hlen := h.len hS hS.cr hN hM
  have hcnt := h.cntK hS hN hM hM2 hp
  have hmem : decide (f p / 2 ∈ M) = decide (p / 2 ∈ N) := by
    rw [h.half p hp, Bool.eq_iff_iff, decide_eq_true_iff, decide_eq_true_iff, hM.mem_iff, List.mem_map]
    exact ⟨fun ⟨x, hx, e⟩ => by rw [h.ginj _ _ (hN.lt x hx) (by omega) e] at hx; exact hx, fun hx => ⟨_, hx, rfl⟩⟩
  have hnil : (settL n (mapM f mn) (cn.map f) M = []) ↔ (settL n mn cn N = []) := by
    rw [← List.length_eq_zero_iff, hlen, List.length_eq_zero_iff]
  rw [(hk _ hX hM2).1, (hk _ hX hM2).2, (hk _ hS hN).1, (hk _ hS hN).2, kindE, kindE, kindN, kindN, kindB_prop hM2, kindB_prop hN, hmem]
  refine ⟨?_, ?_⟩
  · by_cases h0 : settL n mn cn N = []
    · rw [setE, setE, if_pos h0, if_pos (hnil.2 h0)]
    · rw [setE, setE, if_neg h0, if_neg fun e => h0 (hnil.1 e)]
  · by_cases h0 : settL n mn cn N = []
    · rw [cntV, cntV, if_pos h0, if_pos (hnil.2 h0)]
    · rw [cntV, cntV, if_neg h0, if_neg fun e => h0 (hnil.1 e), hcnt, hlen]
theorem Move.most (h : Move n f g) (hS : Shn n mn cn) (hp : (List.range n).Perm ((List.range n).map g)) : mostVI n ((mapM f mn).map prI) ((cn.map f).map fun (c : Nat) => (c : Int)) = mostVI n (mn.map prI) (cn.map fun (c : Nat) => (c : Int)) := by
  have hX := h.shn hS
  rw [(cnt_most hX).2, (cnt_most hS).2]
  congr 1
  have e := (h.turn hS hS.cr hX.ne).most (M := List.range n) (used := []) (fun i hi => hi) (fun _ h => absurd h (by simp))
  rw [List.map_nil] at e
  exact (Sat.mostF_perm hp []).trans e
theorem perm_back (n : Nat) : (List.range n).Perm ((List.range n).map (n - 1 - ·)) := by
  have e : (List.range n).map (n - 1 - ·) = (List.range n).reverse := List.ext_getElem (by simp) fun i h1 h2 => by simp [List.getElem_reverse]
  rw [e]; exact (List.reverse_perm _).symm
/-- names numbered from the other end, in their order -/
def backN (n : Nat) (N : List Nat) : List Nat := (N.map (n - 1 - ·)).reverse
theorem backN_nms (hN : Nms n N) : Nms n (backN n N) := by
  refine ⟨?_, fun k hk => ?_⟩
  · rw [backN, List.pairwise_reverse, List.pairwise_map]
    refine List.Pairwise.imp_of_mem (fun {a b} ha hb h => ?_) hN.inc
    have := hN.lt a ha
    have := hN.lt b hb
    show n - 1 - b < n - 1 - a
    omega
  · rw [backN, List.mem_reverse] at hk
    obtain ⟨x, hx, rfl⟩ := List.mem_map.1 hk
    have := hN.lt x hx
    show n - 1 - x < n
    omega
theorem backN_perm (N : List Nat) : (backN n N).Perm (N.map (n - 1 - ·)) := List.reverse_perm _
theorem turned_facts (hS : Shn n mn cn) (hN : Nms n N) (k : Nat) {p : Nat} (hp : p < 2 * n) {ms xs ys : List (Int × Int)} {cs cx cy : List Int} (hms : ms = mn.map prI) (hcs : cs = cn.map fun (c : Nat) => (c : Int))
    (hxs : xs = (mapM (turnP k) mn).map prI) (hcx : cx = (cn.map (turnP k)).map fun (c : Nat) => (c : Int)) (hys : ys = (mapM (backP n) mn).map prI) (hcy : cy = (cn.map (backP n)).map fun (c : Nat) => (c : Int)) :
    ∃ (a : Nat) (E K m : Int), a ≤ 1024 ∧ cntVI n ms cs (natV N) = a ∧ cntVI n xs cx (natV N) = a ∧ cntVI n ys cy (natV (backN n N)) = a ∧ nameE n ms cs (natV N) = 0 ∧ nameE n xs cx (natV N) = 0 ∧ nameE n ys cy (natV (backN n N)) = 0 ∧
      kindNI n ms cs (natV N) p = K ∧ kindNI n xs cx (natV N) (turnP k p : Nat) = K ∧ kindNI n ys cy (natV (backN n N)) (backP n p : Nat) = K ∧ kindEI n ms cs (natV N) p = E ∧ kindEI n xs cx (natV N) (turnP k p : Nat) = E ∧ kindEI n ys cy (natV (backN n N)) (backP n p : Nat) = E ∧
      mostVI n ms cs = m ∧ mostVI n xs cx = m ∧ mostVI n ys cy = m ∧ vsheet n ms cs = 0 ∧ vsheet n xs cx = 0 ∧ vsheet n ys cy = 0 := by
  subst hms hcs hxs hcx hys hcy
  have h1 := move_turn n k
  have h2 := move_back n
  have hX := h1.shn hS
  have hY := h2.shn hS
  have p1 : N.Perm (N.map id) := by rw [List.map_id]
  have p2 := backN_perm (n := n) N
  have hM := backN_nms hN
  refine ⟨_, _, _, _, settL_le hS hN, cntVI_nat hS hN, ?_, ?_, nameE_nat hS hN, nameE_nat hX hN, nameE_nat hY hM, rfl, (h1.kind hS hN p1 hN hp).2, (h2.kind hS hN p2 hM hp).2, rfl, (h1.kind hS hN p1 hN hp).1, (h2.kind hS hN p2 hM hp).1, rfl, h1.most hS (by rw [List.map_id]), h2.most hS (perm_back n), hS.v, hX.v, hY.v⟩
  · rw [cntVI_nat hX hN, h1.len hS hS.cr hN p1]
  · rw [cntVI_nat hY hM, h2.len hS hS.cr hN p2]
end
end Go.Proofs.Ytdhdpbnlhnodjaa
