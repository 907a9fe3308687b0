import Derived.Test.YtbjmfhlkmklmmaaThC
/-  How many flat plates come back: reckoned for all of at most 6 places. -/
namespace Go.Proofs.Ytbjmfhlkmklmmaa
open Go.RowKit

/-- the digits of a number, to the base 4 -/
def digL (k n : Nat) : List Int := (List.range n).map fun j => ((k / 4 ^ j % 4 : Nat) : Int)
theorem digL_len (k n : Nat) : (digL k n).length = n := by simp [digL]
theorem digL_snoc (k n : Nat) : digL k (n + 1) = digL k n ++ [((k / 4 ^ n % 4 : Nat) : Int)] := by simp [digL, List.range_succ]
theorem ofL_digL {k n j : Nat} (hj : j < n) : ofL (digL k n) j = ((k / 4 ^ j % 4 : Nat) : Int) := by simp [ofL, digL, hj]
def comesB (w h k : Nat) : Bool := (burnL w h (digL k (w * h))).length == w * h
def cntB (w h : Nat) : Nat → Nat
  | 0 => 0
  | k + 1 => cntB w h k + if comesB w h k then 1 else 0
theorem cntB_le (w h : Nat) : ∀ k, cntB w h k ≤ k
  | 0 => Nat.le_refl _
  | k + 1 => by rw [cntB]; have := cntB_le w h k; split <;> omega
def cntD (w h : Nat) (lo : Nat) : Nat → Nat
  | 0 => if comesB w h lo then 1 else 0
  | n + 1 => cntD w h lo n + cntD w h (lo + 2 ^ n) n
theorem cntB_D (w h : Nat) : ∀ n lo, cntB w h (lo + 2 ^ n) = cntB w h lo + cntD w h lo n
  | 0, lo => rfl
  | n + 1, lo => by
    rw [show lo + 2 ^ (n + 1) = (lo + 2 ^ n) + 2 ^ n by rw [Nat.pow_succ]; omega, cntB_D w h n, cntB_D w h n, cntD, Nat.add_assoc]
theorem cntB_pow (w h n : Nat) : cntB w h (2 ^ n) = cntD w h 0 n := by
  have := cntB_D w h n 0
  rw [Nat.zero_add] at this
  rw [this, cntB, Nat.zero_add]
theorem cntD_all : ((cntD 1 1 0 2, cntD 1 2 0 4, cntD 1 3 0 6, cntD 1 4 0 8), cntD 2 1 0 4, cntD 2 2 0 8, cntD 2 3 0 12, (cntD 3 1 0 6, cntD 3 2 0 12, cntD 4 1 0 8)) = ((4, 15, 56, 209), 15, 192, 2415, (56, 2415, 209)) := by decide +kernel
theorem cnt_all {w h : Nat} (h1 : 1 ≤ w ∧ w ≤ 4) (h2 : 1 ≤ h ∧ h ≤ 4) (h6 : w * h ≤ 6) : (cntB w h (4 ^ (w * h)) : Int) = cntV w h := by
  have hd := cntD_all
  simp only [Prod.mk.injEq] at hd
  have hE : cntE w h = 0 := by rw [cntE, if_neg]; simp [sizeB]; omega
  rw [show (4 : Nat) = 2 ^ 2 from rfl, ← Nat.pow_mul, cntB_pow, cntV, if_pos hE, Int.toNat_natCast, Int.toNat_natCast]
  have hw : w = 1 ∨ w = 2 ∨ w = 3 ∨ w = 4 := by omega
  have hh : h = 1 ∨ h = 2 ∨ h = 3 ∨ h = 4 := by omega
  rcases hw with rfl | rfl | rfl | rfl <;> rcases hh with rfl | rfl | rfl | rfl
  · rw [cntP_11]; exact congrArg Int.ofNat hd.1.1
  · rw [cntP_12]; exact congrArg Int.ofNat hd.1.2.1
  · rw [cntP_13]; exact congrArg Int.ofNat hd.1.2.2.1
  · rw [cntP_14]; exact congrArg Int.ofNat hd.1.2.2.2
  · rw [cntP_21]; exact congrArg Int.ofNat hd.2.1
  · rw [cntP_22]; exact congrArg Int.ofNat hd.2.2.1
  · rw [cntP_23]; exact congrArg Int.ofNat hd.2.2.2.1
  · exact absurd h6 (by decide)
  · rw [cntP_31]; exact congrArg Int.ofNat hd.2.2.2.2.1
  · rw [cntP_32]; exact congrArg Int.ofNat hd.2.2.2.2.2.1
  · exact absurd h6 (by decide)
  · exact absurd h6 (by decide)
  · rw [cntP_41]; exact congrArg Int.ofNat hd.2.2.2.2.2.2
  · exact absurd h6 (by decide)
  · exact absurd h6 (by decide)
  · exact absurd h6 (by decide)
def cntSym : Bool := (List.range 5).all fun w => (List.range 5).all fun h => w == 0 || h == 0 || (decide (cntN w h = cntN h w) && decide (1 ≤ cntN w h) && decide (cntN w h ≤ 1000000000))
theorem cntSym_ok : cntSym = true := by decide +kernel
theorem cnt_sym {w h : Nat} (h1 : 1 ≤ w ∧ w ≤ 4) (h2 : 1 ≤ h ∧ h ≤ 4) : cntE w h = 0 ∧ cntV h w = cntV w h ∧ 1 ≤ cntV w h := by
  have hE : cntE w h = 0 := by rw [cntE, if_neg]; simp [sizeB]; omega
  have hE2 : cntE h w = 0 := by rw [cntE, if_neg]; simp [sizeB]; omega
  have hc := cntSym_ok
  rw [cntSym, List.all_eq_true] at hc
  have h3 := hc w (List.mem_range.2 (by omega))
  rw [List.all_eq_true] at h3
  have h4 := h3 h (List.mem_range.2 (by omega))
  have e1 : (w == 0) = false := by simp; omega
  have e2 : (h == 0) = false := by simp; omega
  rw [e1, e2] at h4
  simp only [Bool.false_or, Bool.and_eq_true, decide_eq_true_iff] at h4
  rw [cntV, cntV, if_pos hE, if_pos hE2, Int.toNat_natCast, Int.toNat_natCast, cntP_val _ _ h1.1 h1.2 h2.1 h2.2, cntP_val _ _ h2.1 h2.2 h1.1 h1.2]
  exact ⟨hE, h4.1.1.symm, h4.1.2⟩
theorem dig_back {w h k : Nat} (hs : sized w h) : burnE w h (digL k (w * h)) = 0 ∧ backB w h (digL k (w * h)) = comesB w h k := by
  have hr : ∀ j, j < w * h → 0 ≤ ofL (digL k (w * h)) j ∧ ofL (digL k (w * h)) j ≤ 3 := fun j hj => by
    rw [ofL_digL hj]
    have := Nat.mod_lt (k / 4 ^ j) (show 0 < 4 by omega)
    omega
  have hv : vplate w h (digL k (w * h)) = 0 := vplate_of hs (digL_len _ _) fun j hj => by have := hr j hj; omega
  have hE := burnE_flat hv fun j hj => (hr j hj).2
  refine ⟨hE, ?_⟩
  rw [backB, burnK, hE, if_pos rfl, Int.toNat_natCast, Int.toNat_natCast, digL_len]
  rfl
end Go.Proofs.Ytbjmfhlkmklmmaa
