import Derived.Test.YtbjmfhlkmklmmaaThA
/-  Blows one behind the other; one blow; more dents. -/
namespace Go.Proofs.Ytbjmfhlkmklmmaa
open Go.RowKit

theorem Run_congr {M : Sand.Pl} {d d' u x : Nat → Int} (h : Sand.Run M d u x) (he : ∀ j, j < M.N → d j = d' j) : ∃ x', Sand.Run M d' u x' ∧ ∀ j, j < M.N → x j = x' j := by
  induction h with
  | start => exact ⟨d', .start, he⟩
  | blow hr hi hn hx ih =>
    obtain ⟨x', h1, h2⟩ := ih
    exact ⟨_, .blow h1 hi hn (by rw [← h2 _ hi]; exact hx), fun j hj => by rw [Sand.hit, Sand.hit, h2 j hj]⟩
def addL (u v : List Int) : List Int := (List.range u.length).map fun j => ofL u j + ofL v j
theorem addL_len (u v : List Int) : (addL u v).length = u.length := by simp [addL]
theorem ofL_addL (u v : List Int) {j : Nat} (hj : j < u.length) : ofL (addL u v) j = ofL u j + ofL v j := by simp [ofL, addL, hj]
theorem RunL.trans {w h : Nat} {d u q v x : List Int} (h1 : RunL w h d u q) (h2 : RunL w h q v x) : RunL w h d (addL u v) x := by
  obtain ⟨l1, l2, l3, f, y, hr, hf, hy⟩ := h1
  obtain ⟨_, m2, m3, g, z, hr2, hg, hz⟩ := h2
  obtain ⟨z', hr3, hz'⟩ := Run_congr hr2 (d' := y) fun j hj => (hy j hj).symm
  exact ⟨l1, by rw [addL_len, l2], m3, _, z', hr.trans hr3, fun j hj => by rw [ofL_addL _ _ (by rw [l2]; exact hj), Sand.plus, hf j hj, hg j hj], fun j hj => (hz' j hj).symm.trans (hz j hj)⟩
theorem Ham.trans {w h : Nat} {d u q X V : List Int} (h1 : RunL w h d u q) (h2 : Ham w h q X V) : Ham w h d X (addL u V) := ⟨h1.trans h2.run, h2.flat⟩
/-- one blow that is possible -/
theorem Ham.blow {w h : Nat} (hs : sized w h) {d X U X' U' : List Int} (hm : Ham w h d X U) {i : Nat} (hi : i < w * h) (hd : 4 ≤ ofL d i) (h2 : Ham w h (hitL w h d i 1) X' U') :
    X = X' ∧ ∀ k, k < w * h → ofL U k = ofL U' k + if k = i then 1 else 0 := by
  have h1 := (RunL.start hm.lenD).blow hs hi (n := 1) (by omega) (by omega)
  obtain ⟨e1, e2⟩ := hm.unique (Ham.trans h1 h2)
  refine ⟨e1, fun k hk => ?_⟩
  rw [e2, ofL_addL _ _ (by rw [addAt_len, List.length_replicate]; exact hk), ofL_addAt _ _ _ _ (by rw [List.length_replicate]; exact hi)]
  simp [ofL, hk]
  omega
/-- with more dents no place has fewer blows -/
theorem Ham.more {w h : Nat} {d d' X U X' U' : List Int} (hm : Ham w h d X U) (hm' : Ham w h d' X' U') (hle : ∀ j, j < w * h → ofL d j ≤ ofL d' j) : ∀ j, j < w * h → ofL U j ≤ ofL U' j :=
  hm.least (fun i hi => hm'.run.pos i hi) fun j hj => by
    have h1 := hm'.flat j hj
    rw [hm'.run.is j hj] at h1
    rw [Sand.ap] at h1 ⊢
    have := hle j hj
    omega
end Go.Proofs.Ytbjmfhlkmklmmaa
