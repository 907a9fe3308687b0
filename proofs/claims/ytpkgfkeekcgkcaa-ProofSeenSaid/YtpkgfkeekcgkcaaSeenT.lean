import Derived.Test.YtpkgfkeekcgkcaaKK
/-  Faults that neither reader has found: the law's side, with no program in sight. -/
namespace Go.Proofs.Ytpkgfkeekcgkcaa
open Go.RowKit
theorem u64_and1 (b : Nat) : bits .and .u64 (b : Int) 1 = (b % 2 : Nat) := by
  have h1 : (BitVec.ofInt 64 1).toNat = 2 ^ 1 - 1 := by decide
  have key : (BitVec.ofInt 64 (b : Int) &&& BitVec.ofInt 64 1).toNat = ((b : Int) % ((2 ^ 64 : Nat) : Int)).toNat % 2 ^ 1 := by
    rw [BitVec.toNat_and, BitVec.toNat_ofInt, h1, Nat.and_two_pow_sub_one_eq_mod]
  show IntKind.u64.wrap ((BitVec.ofInt 64 (b : Int) &&& BitVec.ofInt 64 1).toNat : Nat) = _
  rw [key]
  simp only [IntKind.wrap, IntKind.bits, IntKind.signed]
  simp
  omega
def bitU (b i : Nat) : Nat := b / 2 ^ i % 2
theorem bitU_le (b i : Nat) : bitU b i ≤ 1 := by have := Nat.mod_lt (b / 2 ^ i) (show 0 < 2 by decide); rw [bitU]; omega
theorem bitU_and (b i : Nat) : bits .and .u64 ((b : Int) / 2 ^ i) 1 = (bitU b i : Nat) := by
  rw [show (b : Int) / 2 ^ i = ((b / 2 ^ i : Nat) : Int) by push_cast; rfl, u64_and1]; rfl
/-- what has been counted of the first k faults -/
structure Cnt3 (k c0 c1 c2 : Nat) : Prop where
  a : c2 ≤ c0
  b : c2 ≤ c1
  c : c0 ≤ k
  d : c1 ≤ k
  e : c0 + c1 ≤ k + c2
theorem Cnt3.zero : Cnt3 0 0 0 0 := ⟨Nat.le_refl _, Nat.le_refl _, Nat.le_refl _, Nat.le_refl _, Nat.le_refl _⟩
theorem Cnt3.step {k c0 c1 c2 : Nat} (h : Cnt3 k c0 c1 c2) {x y : Nat} (hx : x ≤ 1) (hy : y ≤ 1) : Cnt3 (k + 1) (c0 + x) (c1 + y) (c2 + x * y) := by
  obtain ⟨a, b, c, d, e⟩ := h
  rcases (show x = 0 ∨ x = 1 by omega) with rfl | rfl <;> rcases (show y = 0 ∨ y = 1 by omega) with rfl | rfl <;> exact ⟨by omega, by omega, by omega, by omega, by omega⟩
/-- what Unseen answers, of counts and a share, and of a lesser one -/
theorem seen_two {n c0 c1 c2 d p q : Nat} (h : Cnt3 n c0 c1 c2) (hn : n ≤ 63) (hd : d ≤ 256) (hp : 1 ≤ p ∧ p ≤ d) (hq : 1 ≤ q ∧ q ≤ p) :
    ∃ E E2 H H2 : Int, unsE c0 c1 c2 p d = E ∧ unsE c0 c1 c2 q d = E2 ∧ unsH c0 c1 c2 p d = H ∧ unsH c0 c1 c2 q d = H2 ∧
    (E = 0 ∨ E = 14) ∧ (E2 = 0 ∨ E2 = 14) ∧ (E = 0 → E2 = 0 ∧ 0 ≤ H ∧ H ≤ H2) ∧ (n * p ≤ c0 * d → n * p ≤ c1 * d → E = 0 ∧ (n : Int) - ((c0 : Int) + c1 - c2) ≤ H) := by
  have ha : ¬ argU c0 c1 c2 := by
    have := h.a; have := h.b; have := h.c; have := h.d
    rw [argU]; omega
  have hs : ∀ r : Nat, 1 ≤ r → r ≤ d → ¬ shareU (r : Int) (d : Int) := fun r h1 h2 => by rw [shareU]; omega
  have hE : ∀ r : Nat, 1 ≤ r → r ≤ d → unsE c0 c1 c2 r d = (if unsM c0 c1 r d < (c0 : Int) + c1 - c2 then 14 else 0) := fun r h1 h2 => by
    rw [unsE, if_neg ha, if_neg (hs r h1 h2)]
  have hM : unsM c0 c1 p d ≤ unsM c0 c1 q d := by
    have h1 := (unsM_iff (one := c0) (two := c1) (num := p) (den := d) (by omega) (by omega) (unsM c0 c1 p d)).1 (Int.le_refl _)
    have h0 : 0 ≤ unsM c0 c1 p d := (unsM_box (one := c0) (two := c1) (num := p) (den := d) (by omega) (by have := h.c; omega) (by omega) (by omega) (by omega) (by omega)).1
    refine (unsM_iff (by omega) (by omega) _).2 ⟨Int.le_trans (Int.mul_le_mul_of_nonneg_left (by omega) h0) h1.1, Int.le_trans (Int.mul_le_mul_of_nonneg_left (by omega) h0) h1.2⟩
  refine ⟨_, _, _, _, rfl, rfl, rfl, rfl, ?_, ?_, ?_, ?_⟩
  · rw [hE p hp.1 hp.2]; split <;> simp
  · rw [hE q hq.1 (by omega)]; split <;> simp
  · intro h0
    rw [hE p hp.1 hp.2] at h0
    have h1 : ¬ unsM c0 c1 p d < (c0 : Int) + c1 - c2 := by
      intro h2; rw [if_pos h2] at h0; cases h0
    have h2 := uns_some ha (hs p hp.1 hp.2) h1
    have h3 := uns_some ha (hs q hq.1 (by omega)) (show ¬ unsM c0 c1 q d < (c0 : Int) + c1 - c2 by omega)
    rw [h2.2, h3.2, h3.1]
    omega
  · intro h1 h2
    have h3 : ((n : Nat) : Int) ≤ unsM c0 c1 p d := (unsM_iff (by omega) (by omega) _).2 ⟨by exact_mod_cast h1, by exact_mod_cast h2⟩
    have h4 : ¬ unsM c0 c1 p d < (c0 : Int) + c1 - c2 := by have := h.e; omega
    have h5 := uns_some ha (hs p hp.1 hp.2) h4
    rw [h5.1, h5.2]
    omega
end Go.Proofs.Ytpkgfkeekcgkcaa
