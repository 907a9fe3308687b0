import Derived.Test.YtbjmfhlkmklmmaaLawC
/-  The examples of the chapter: what they come to. -/
namespace Go.Proofs.Ytbjmfhlkmklmmaa
open Go.RowKit

/-- hammered flat, by a reckoning -/
def flatC (w h : Nat) : Nat → List Int → List Int → List Int × List Int
  | 0, x, u => (x, u)
  | f + 1, x, u => match (List.range (w * h)).find? fun i => decide (4 ≤ ofL x i) with
    | none => (x, u)
    | some i => flatC w h f (hitL w h x i (ofL x i / 4)) (addAt u i (ofL x i / 4))
theorem flatC_run {w h : Nat} (hs : sized w h) {d : List Int} : ∀ (f : Nat) (x u : List Int), RunL w h d u x → RunL w h d (flatC w h f x u).2 (flatC w h f x u).1
  | 0, x, u, hr => hr
  | f + 1, x, u, hr => by
    rw [flatC]
    split
    · exact hr
    · rename_i i hi
      have h1 := List.mem_range.1 (List.mem_of_find?_eq_some hi)
      have h2 := List.find?_some hi
      rw [decide_eq_true_iff] at h2
      exact flatC_run hs f _ _ (hr.blow hs h1 (by omega) (by omega))
/-- what a plate comes to, by a reckoning -/
theorem ham_of {w h : Nat} {d X U : List Int} (h1 : (decide (1 ≤ w) && decide (w ≤ 6) && decide (1 ≤ h) && decide (h ≤ 6) && decide (d.length = w * h) && decide (flatC w h 60 d (List.replicate (w * h) 0) = (X, U)) && (List.range (w * h)).all fun j => decide (ofL X j ≤ 3)) = true) : Ham w h d X U := by
  simp only [Bool.and_eq_true, decide_eq_true_iff, List.all_eq_true, List.mem_range] at h1
  obtain ⟨⟨⟨⟨⟨⟨a1, a2⟩, a3⟩, a4⟩, hl⟩, hf⟩, hfl⟩ := h1
  have hr := flatC_run (w := w) (h := h) ⟨a1, a2, a3, a4⟩ 60 _ _ (RunL.start hl)
  rw [hf] at hr
  exact ⟨hr, hfl⟩
def exP : List Int := [5, 3, 2, 3]
def exQ : List Int := [3, 1, 0, 1]
theorem ex_ham : Ham 2 2 exP [3, 1, 0, 1] [1, 1, 1, 1] := ham_of (by decide +kernel)
theorem ex_vp : vplate 2 2 exP = 0 ∧ vplate 2 2 exQ = 0 ∧ vplate 2 2 [0, 1, 1, 0] = 0 ∧ vplate 2 2 [2, 2, 2, 2] = 0 := by decide +kernel
theorem ex_flat : flatX 2 2 exP = [3, 1, 0, 1] ∧ flatU 2 2 exP = [1, 1, 1, 1] := by
  rw [flatX, flatU, if_pos ex_vp.1, if_pos ex_vp.1]
  show (hamP 2 2 exP).1 = _ ∧ (hamP 2 2 exP).2 = _
  rw [ex_ham.eq]; exact ⟨rfl, rfl⟩
theorem ex_blow : blowE 2 2 exP 0 = 0 ∧ blowL 2 2 exP 0 = [1, 4, 3, 3] ∧ blowE 2 2 exP 1 = 9 ∧ blowL 2 2 exP 1 = [] := by decide +kernel
theorem ex_lost : lostN 2 2 exP = 8 := by rw [lostN, if_pos ex_vp.1, ex_flat.1]; decide +kernel
theorem ex_blows : blowsE 2 2 exP [1, 1, 1, 1] = 0 ∧ blowsE 2 2 exP [1, 1, 1, 0] = 22 := by decide +kernel
theorem ex_burn : burnE 2 2 exQ = 0 ∧ burnK 2 2 exQ = [0, 1, 3, 2] ∧ burnE 2 2 exP = 9 ∧ burnE 2 2 [0, 1, 1, 0] = 0 ∧ backB 2 2 [0, 1, 1, 0] = false := by decide +kernel
theorem ex_neut : neutE 2 2 = 0 ∧ neutL 2 2 = [2, 2, 2, 2] := by
  have h1 : Ham 2 2 (sixL 4) [2, 2, 2, 2] [2, 2, 2, 2] := ham_of (by decide +kernel)
  have h2 : Ham 2 2 (lessL 4 [2, 2, 2, 2] 4) [2, 2, 2, 2] [1, 1, 1, 1] := ham_of (by decide +kernel)
  refine ⟨by decide +kernel, ?_⟩
  rw [neutL, if_pos (by decide +kernel)]
  show neutF 2 2 = _
  have hd : neutD 2 2 = lessL 4 [2, 2, 2, 2] 4 := by
    show lessL 4 (hamP 2 2 (sixL 4)).1 4 = _
    rw [h1.eq]
  rw [neutF, hd, h2.eq]
theorem ex_upon : uponE 2 2 exQ 2 2 [2, 2, 2, 2] = 0 ∧ uponL 2 2 exQ 2 2 [2, 2, 2, 2] = [3, 1, 0, 1] := by
  have h1 : Ham 2 2 (sumL exQ [2, 2, 2, 2]) [3, 1, 0, 1] [1, 1, 1, 1] := ham_of (by decide +kernel)
  refine ⟨by decide +kernel, ?_⟩
  rw [uponL, if_pos (by decide +kernel)]
  show (hamP 2 2 (sumL exQ [2, 2, 2, 2])).1 = _
  rw [h1.eq]
theorem ex_cnt : cntE 2 2 = 0 ∧ cntV 2 2 = 192 ∧ cntE 5 1 = 3 := by
  refine ⟨by decide +kernel, ?_, by decide +kernel⟩
  rw [cntV, if_pos (by decide +kernel)]
  exact cntP_22
theorem Ints.block {V : World} {b : Nat} {T : TypeId} {xs : List Int} {n : Nat} (h : Lin V b T (ints xs)) (hn : n = xs.length ∧ n ≤ 1000000) : Ints V (.slice (some ⟨b, 0, none⟩) n n) xs := by
  obtain ⟨rfl, hn⟩ := hn
  exact ⟨by omega, .inr ⟨b, 0, xs.length, rfl, Nat.le_refl _, h.lt, fun k hk => by rw [Nat.zero_add]; exact h.cell (ints_at hk)⟩⟩
/-- several lists -/
def Ins (V : World) (l : List (Value × List Int)) : Prop := ∀ p ∈ l, Ints V p.1 p.2
theorem Ins.later {V : World} {l : List (Value × List Int)} (h : Ins V l) (y : Later V) : Ins y.w l := fun p hp => (h p hp).later y
theorem Ins.cons {V : World} {l : List (Value × List Int)} (h : Ins V l) {v : Value} {xs : List Int} (hv : Ints V v xs) : Ins V ((v, xs) :: l) := fun p hp => by
  rcases List.mem_cons.1 hp with rfl | hp
  · exact hv
  · exact h p hp
theorem Ins.nil (V : World) : Ins V [] := fun p hp => absurd hp (by simp)
theorem Ins.at {V : World} {l : List (Value × List Int)} (h : Ins V l) {v : Value} {xs : List Int} (hm : (v, xs) ∈ l) : Ints V v xs := h _ hm
end Go.Proofs.Ytbjmfhlkmklmmaa
