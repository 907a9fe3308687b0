import Derived.Test.YtbjmfhlkmklmmaaLawA
/-  What a plate comes to: it is, and what follows for the laws. -/
namespace Go.Proofs.Ytbjmfhlkmklmmaa
open Go.RowKit

/-- every plate comes to an end -/
theorem ham_ex {w h : Nat} (hs : sized w h) {d : List Int} (hl : d.length = w * h) (hlow : low w h d) : ∃ X U, Ham w h d X U := by
  have key : ∀ (fuel : Nat) (u x : List Int), RunL w h d u x → (12528 : Int) - Sand.sum (w * h) (ofL u) < fuel → ∃ X U, Ham w h d X U := by
    intro fuel
    induction fuel with
    | zero => intro u x hr hf; have := low_sum hs hr hlow; omega
    | succ n ih =>
      intro u x hr hf
      by_cases hfl : ∀ j, j < w * h → ofL x j ≤ 3
      · exact ⟨x, u, hr, hfl⟩
      · obtain ⟨i, hi⟩ := Classical.not_forall.1 hfl
        obtain ⟨hi, hi2⟩ := Classical.not_imp.1 hi
        refine ih _ _ (hr.blow hs hi (n := 1) (by omega) (by omega)) ?_
        rw [Sand.sum_congr (g := fun j => ofL u j + if j = i then 1 else 0) _ fun j hj => ofL_addAt u i 1 j (by rw [hr.2.1]; exact hi), Sand.sum_add, Sand.sum_one _ _ _ hi]
        omega
  refine key 20000 _ _ (RunL.start hl) ?_
  have := Sand.sum_nonneg (f := ofL (List.replicate (w * h) 0)) (w * h) fun i hi => by simp [ofL, hi]
  omega
theorem vplate_of {w h : Nat} (hs : sized w h) {d : List Int} (hl : d.length = w * h) (hlo : ∀ j, j < w * h → 0 ≤ ofL d j ∧ ofL d j ≤ 30) : vplate w h d = 0 := by
  have h1 : sizeB w h 6 = true := by unfold sized at hs; simp [sizeB]; omega
  rw [vplate, if_neg (by rw [h1]; simp), if_neg (by rw [hl, Int.natCast_mul]; simp), if_neg]
  rw [any_none fun j hj => hlo j (by omega)]
  simp
theorem flatB_of {d : List Int} (h : ∀ j, j < d.length → ofL d j ≤ 3) : flatB d = true := by
  rw [flatB, List.all_eq_true]
  intro x hx
  obtain ⟨j, hj, rfl⟩ := List.getElem_of_mem hx
  have := h j hj
  rw [← nth_ofL, nth_eq hj] at this
  simpa using this
theorem Ham.lenX {w h : Nat} {d X U : List Int} (hm : Ham w h d X U) : X.length = w * h := hm.run.2.2.1
theorem Ham.lenU {w h : Nat} {d X U : List Int} (hm : Ham w h d X U) : U.length = w * h := hm.run.2.1
theorem Ham.lenD {w h : Nat} {d X U : List Int} (hm : Ham w h d X U) : d.length = w * h := hm.run.1
theorem Ham.vp {w h : Nat} (hs : sized w h) {d X U : List Int} (hm : Ham w h d X U) (hd : low w h d) : vplate w h X = 0 := vplate_of hs hm.lenX fun j hj => by have := hm.range hd j hj; omega
theorem Ham.fl {w h : Nat} {d X U : List Int} (hm : Ham w h d X U) : flatB X = true := flatB_of fun j hj => hm.flat j (by rw [← hm.lenX]; exact hj)
theorem hitsL_ap {w h : Nat} (hs : sized w h) {d : List Int} (hl : d.length = w * h) (bl : List Int) : ∀ k, k ≤ w * h → ∀ j, j < w * h → ofL (hitsL w h d bl k) j = Sand.ap (pl w h) (ofL d) (fun i => if i < k then ofL bl i else 0) j
  | 0, _, j, hj => by
    rw [show (fun i => if i < 0 then ofL bl i else 0) = fun _ => (0 : Int) from funext fun i => if_neg (Nat.not_lt_zero i), Sand.ap_zero]; rfl
  | k + 1, hk, j, hj => by
    have hkN : k < w * h := by omega
    rw [hitsL_succ, ofL_hitL hs (by rw [hitsL_len]; omega) hkN _ j hj, ← Sand.ap_one (M := pl w h) (ofL (hitsL w h d bl k)) (ofL bl k) hkN j,
      Sand.ap_congr (M := pl w h) (d' := Sand.ap (pl w h) (ofL d) (fun i => if i < k then ofL bl i else 0)) (hitsL_ap hs hl bl k (by omega) j hj) rfl (fun i hi => rfl), ← Sand.ap_plus]
    have e : ∀ i, Sand.plus (fun i => if i < k then ofL bl i else 0) (Sand.one k (ofL bl k)) i = if i < k + 1 then ofL bl i else 0 := fun i => by
      rw [Sand.plus, Sand.one]
      by_cases e : i = k
      · subst e; rw [if_neg (Nat.lt_irrefl _), if_pos rfl, if_pos (Nat.lt_succ_self _)]; omega
      · rw [if_neg e]
        by_cases h2 : i < k
        · rw [if_pos h2, if_pos (by omega)]; omega
        · rw [if_neg h2, if_neg (by omega)]; rfl
    exact Sand.ap_congr rfl (e j) (fun i _ => e i)
theorem hitsL_all {w h : Nat} (hs : sized w h) {d : List Int} (hl : d.length = w * h) (bl : List Int) {j : Nat} (hj : j < w * h) : ofL (hitsL w h d bl (w * h)) j = Sand.ap (pl w h) (ofL d) (ofL bl) j := by
  rw [hitsL_ap hs hl bl _ (Nat.le_refl _) j hj]
  exact Sand.ap_congr rfl (if_pos hj) (fun i hi => if_pos hi)
theorem Ham.hits {w h : Nat} (hs : sized w h) {d X U : List Int} (hm : Ham w h d X U) : hitsL w h d U (w * h) = X := ofL_ext (by rw [hitsL_len, hm.lenD, hm.lenX]) fun j hj => by
  rw [hitsL_len, hm.lenD] at hj
  rw [hitsL_all hs hm.lenD U hj, hm.run.is j hj]
theorem Ham.upos {w h : Nat} (hs : sized w h) {d X U : List Int} (hm : Ham w h d X U) (hd : low w h d) : ∀ j, j < w * h → 0 ≤ ofL U j ∧ ofL U j ≤ 348 := fun j hj =>
  ⟨hm.run.pos j hj, by have := hm.run.bound hs (K := 29) (by omega) (fun i hi => by have := hd i hi; omega) j hj; omega⟩
theorem blowsE_of {w h : Nat} {d bl : List Int} (hv : vplate w h d = 0) (hl : bl.length = d.length) (hb : ∀ j, j < d.length → 0 ≤ ofL bl j ∧ ofL bl j ≤ 1000000) : blowsE w h d bl = if flatB (hitsL w h d bl d.length) then 0 else 22 := by
  rw [blowsE, if_neg (by rw [hv]; simp), if_neg (by rw [hl]; simp), any_none fun j hj => hb j (by omega), hl, Int.toNat_natCast, Int.toNat_natCast]
  rfl
theorem Ham.blowsOK {w h : Nat} (hs : sized w h) {d X U : List Int} (hm : Ham w h d X U) (hd : low w h d) (hv : vplate w h d = 0) : blowsE w h d U = 0 := by
  rw [blowsE_of hv (by rw [hm.lenU, hm.lenD]) fun j hj => by have := hm.upos hs hd j (by rw [← hm.lenD]; exact hj); omega, hm.lenD, hm.hits hs, hm.fl]; rfl
theorem valid_low {w h : Nat} {d : List Int} (hv : vplate w h d = 0) : sized w h ∧ d.length = w * h ∧ (∀ j, j < w * h → 0 ≤ ofL d j ∧ ofL d j ≤ 30) ∧ low w h d := by
  obtain ⟨wn, hn, e1, e2, hs, hl, hlo⟩ := vplate_zero hv
  have hw : w = wn := by omega
  have hh : h = hn := by omega
  subst hw hh
  exact ⟨hs, hl, fun j hj => hlo j (by omega), vplate_low hl hlo⟩
theorem flat_of {w h : Nat} {d X U : List Int} (hv : vplate w h d = 0) (hm : Ham w h d X U) : flatX w h d = X ∧ flatU w h d = U := by
  rw [flatX, flatU, if_pos hv, if_pos hv, Int.toNat_natCast, Int.toNat_natCast, hm.eq]; exact ⟨rfl, rfl⟩
end Go.Proofs.Ytbjmfhlkmklmmaa
