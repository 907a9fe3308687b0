import Derived.Test.YtpkgfkeekcgkcaaBakS
/-  Back, and back again. -/
namespace Go.Proofs.Ytpkgfkeekcgkcaa
open Go.RowKit
open Lcs (few len txt mrk stk ads cnt dual ads_ne txt_app mrk_app cnt_app dual_app stk_app ads_app)
section
variable {st : List Int} {l : List UInt8} {ad : List (List UInt8)}
theorem pre_word {sn : List Nat} (hs : ∀ i : Nat, hasB st (i : Int) = true ↔ i ∈ sn) (ha : ad.length = l.length + 1) : preW st l ad (l.length + 1) = Lcs.word sn 0 l ad := by
  have key : ∀ d k, d + k = l.length → preW st l ad k ++ Lcs.word sn k (l.drop k) (ad.drop k) = preW st l ad (l.length + 1) := by
    intro d
    induction d with
    | zero =>
      intro k hk
      have hk : k = l.length := by omega
      subst hk
      rw [List.drop_of_length_le (Nat.le_refl _), List.drop_eq_getElem_cons (by omega : l.length < ad.length), Lcs.word, preW, opW, if_neg (Nat.lt_irrefl _), List.append_nil, sat_eq (by omega)]
    | succ d ih =>
      intro k hk
      have h1 : k < l.length := by omega
      rw [← ih (k + 1) (by omega), List.drop_eq_getElem_cons h1, List.drop_eq_getElem_cons (by omega : k < ad.length), Lcs.word, preW, opW, if_pos h1, sat_eq (by omega), bt_eq h1]
      by_cases hb : hasB st (k : Int) = true
      · rw [if_pos hb, if_pos ((hs k).1 hb)]; simp [List.append_assoc]
      · rw [if_neg hb, if_neg (fun e => hb ((hs k).2 e))]; simp [List.append_assoc]
  have := key l.length 0 rfl
  rw [List.drop_zero, List.drop_zero] at this
  exact this.symm
/-- the numbers of a word's strikes -/
def stkI (w : List Lcs.Op) : List Int := (stk 0 w).map fun (i : Nat) => (i : Int)
theorem hasB_stkI (w : List Lcs.Op) (i : Nat) : hasB (stkI w) (i : Int) = true ↔ i ∈ stk 0 w := by
  rw [hasB, List.any_eq_true, stkI]
  constructor
  · rintro ⟨x, hx, e⟩
    obtain ⟨j, hj, rfl⟩ := List.mem_map.1 hx
    have : j = i := by
      have e2 : (j : Int) = (i : Int) := by simpa using e
      omega
    rw [← this]; exact hj
  · intro h
    exact ⟨(i : Int), List.mem_map.2 ⟨i, h, rfl⟩, by simp⟩
/-- a word's marks say the word -/
theorem pre_of (w : List Lcs.Op) : preW (stkI w) (txt w) (ads w) ((txt w).length + 1) = w := by
  rw [pre_word (sn := stk 0 w) (hasB_stkI w) (Lcs.ads_len w)]
  exact Lcs.word_of w 0 _ fun i _ _ => Iff.rfl
theorem Okm.word (h : Okm l st ad) : stkI (preW st l ad (l.length + 1)) = st ∧ ads (preW st l ad (l.length + 1)) = ad := by
  constructor
  · rw [stkI, pre_stk, h.stkE, h.nats]
  · rw [pre_word (sn := st.map Int.toNat) (fun i => ?_) h.al, Lcs.word_ads _ 0 l ad h.al]
    rw [← h.stkE, ← pre_stk st l ad, ← hasB_stkI, stkI, pre_stk, h.stkE, h.nats]
theorem okm_of (w : List Lcs.Op) (h1 : (txt w).length ≤ 12) (h2 : ∀ s ∈ ads w, s.length ≤ 12) : Okm (txt w) (stkI w) (ads w) where
  l12 := h1
  al := Lcs.ads_len w
  a12 := h2
  sr := fun i hi => by
    have hi' := hi
    rw [stkI, List.length_map] at hi'
    rw [nth_eq hi]
    simp only [stkI, List.getElem_map]
    have := Lcs.stk_lt w 0 _ (List.getElem_mem hi')
    omega
  si := fun i hi => by
    have hi' := hi
    rw [stkI, List.length_map] at hi'
    rw [nth_eq hi, nth_eq (by omega)]
    simp only [stkI, List.getElem_map]
    have := List.pairwise_iff_getElem.1 (Lcs.stk_inc w 0) i (i + 1) (by omega) hi' (Nat.lt_succ_self i)
    omega
theorem bkS_word : bkS st l ad (l.length + 1) = stkI (dual (preW st l ad (l.length + 1))) := (bak_stk st l ad _).symm
theorem bkA_word : bkA st l ad (rd st l ad (l.length + 1)).length l.length = ads (dual (preW st l ad (l.length + 1))) := by
  have h1 := rd_len st l ad l.length
  have h2 : (kp st l l.length).length = 0 := by rw [kp, if_neg (fun e => Nat.lt_irrefl _ e.1)]; rfl
  rw [bak_ads st l ad _ l.length (Nat.le_refl _) (by omega), show dual (preW st l ad (l.length + 1)) = bakW st l ad (l.length + 1) from rfl, bak_succ, ads_app]
  obtain ⟨us, a, hu, hul⟩ := ads_snoc (bakW st l ad l.length)
  have e1 : ads ((sat ad l.length).map .del ++ dual (opW st l l.length)) = List.replicate (sat ad l.length).length [] ++ [[]] := by
    rw [opW, if_neg (Nat.lt_irrefl _), show dual [] = [] from rfl, List.append_nil, ads_dels]
  rw [e1, hu, show List.replicate (sat ad l.length).length ([] : List UInt8) ++ [[]] = [] :: List.replicate (sat ad l.length).length [] by rw [← List.replicate_succ', List.replicate_succ], Lcs.jn_end, List.append_nil, List.append_assoc]
  congr 1
  show a :: List.replicate _ [] = a :: List.replicate _ []
  congr 2
  omega
end
end Go.Proofs.Ytpkgfkeekcgkcaa
