import Derived.Test.YtbjmfhlkmklmmaaWk
/-  Plain laws of plates, for the statements. -/
namespace Go.Proofs.Ytbjmfhlkmklmmaa
open Go.RowKit

theorem sum_card {l : List Nat} (hn : l.Nodup) : ∀ n, (∀ x ∈ l, x < n) → Sand.sum n (fun j => if j ∈ l then (1 : Int) else 0) = l.length := by
  induction l with
  | nil => intro n _; simp [Sand.sum_zero]
  | cons x l ih =>
    intro n hl
    have hx := hl x (by simp)
    obtain ⟨h1, h2⟩ := List.nodup_cons.1 hn
    rw [Sand.sum_congr (g := fun j => (if j = x then 1 else 0) + if j ∈ l then 1 else 0) n fun j hj => by
      by_cases e : j = x
      · subst e; simp [h1]
      · simp [e], Sand.sum_add, Sand.sum_one n x 1 hx, ih h2 n fun y hy => hl y (by simp [hy]), List.length_cons]
    push_cast; omega
/-- how many neighbours a place has -/
theorem rim {w h : Nat} (hs : sized w h) {i : Nat} (hi : i < w * h) : Sand.sum (w * h) (fun j => (pl w h).a i j) = (nb w h i).length := by
  have hb := nb_all hs hi
  rw [← sum_card hb.1 (w * h) hb.2.1]
  exact Sand.sum_congr _ fun j hj => by
    show (if near w i j then (1 : Int) else 0) = _
    by_cases hm : j ∈ nb w h i
    · rw [if_pos hm, if_pos ((mem_nb hs hi).1 hm).2]
    · rw [if_neg hm, if_neg fun hn => hm ((mem_nb hs hi).2 ⟨hj, hn⟩)]
/-- what is lost, over the edge -/
theorem Ham.lost {w h : Nat} (hs : sized w h) {d X U : List Int} (hm : Ham w h d X U) : Sand.sum (w * h) (ofL d) - Sand.sum (w * h) (ofL X) = Sand.sum (w * h) (fun i => ofL U i * (4 - (nb w h i).length)) := by
  have e1 : Sand.sum (w * h) (ofL X) = Sand.sum (w * h) (fun j => ofL d j + - (4 * ofL U j) + Sand.sum (w * h) (fun i => (pl w h).a i j * ofL U i)) :=
    Sand.sum_congr _ fun j hj => by rw [hm.run.is j hj, Sand.ap]; show _ - _ + Sand.sum (w * h) _ = _; omega
  have e2 : Sand.sum (w * h) (fun j => Sand.sum (w * h) (fun i => (pl w h).a i j * ofL U i)) = Sand.sum (w * h) (fun i => ofL U i * (nb w h i).length) := by
    rw [Sand.sum_swap]
    exact Sand.sum_congr _ fun i hi => by
      rw [Sand.sum_congr (g := fun j => ofL U i * (pl w h).a i j) _ fun j _ => Int.mul_comm _ _, Sand.sum_mul, rim hs hi]
  have e3 : Sand.sum (w * h) (fun i => ofL U i * (4 - (nb w h i).length)) = Sand.sum (w * h) (fun i => 4 * ofL U i) + - Sand.sum (w * h) (fun i => ofL U i * (nb w h i).length) := by
    rw [← Sand.sum_neg, ← Sand.sum_add]
    exact Sand.sum_congr _ fun i _ => by rw [Int.mul_sub, Int.mul_comm]; omega
  rw [e1, Sand.sum_add, Sand.sum_add, Sand.sum_neg, e2, e3]
  omega
/-- a flat plate stays -/
theorem ham_id {w h : Nat} {d : List Int} (hl : d.length = w * h) (hf : ∀ j, j < w * h → ofL d j ≤ 3) : Ham w h d d (List.replicate (w * h) 0) := ⟨RunL.start hl, hf⟩
theorem sum_rep (n m : Nat) : Sand.sum n (ofL (List.replicate m 0)) = 0 := by
  rw [Sand.sum_congr (g := fun _ => 0) n fun j _ => by by_cases h : j < m <;> simp [ofL, h], Sand.sum_zero]
theorem term_bound {w h : Nat} {U : List Int} (hu : ∀ j, j < w * h → 0 ≤ ofL U j ∧ ofL U j ≤ 348) : ∀ k, k ≤ w * h → 0 ≤ Sand.sum k (fun i => ofL U i * (4 - (nb w h i).length)) ∧ Sand.sum k (fun i => ofL U i * (4 - (nb w h i).length)) ≤ 1392 * k
  | 0, _ => ⟨Int.le_refl _, Int.le_refl _⟩
  | k + 1, hk => by
    have h1 := term_bound hu k (by omega)
    have h2 := hu k (by omega)
    have h3 := nb_len w h k
    have hp1 : 0 ≤ ofL U k * (4 - ((nb w h k).length : Int)) := Int.mul_nonneg h2.1 (by omega)
    have hp2 : ofL U k * (4 - ((nb w h k).length : Int)) ≤ 348 * 4 := Int.mul_le_mul h2.2 (by omega) (by omega) (by omega)
    rw [Sand.sum]
    push_cast
    omega
end Go.Proofs.Ytbjmfhlkmklmmaa
