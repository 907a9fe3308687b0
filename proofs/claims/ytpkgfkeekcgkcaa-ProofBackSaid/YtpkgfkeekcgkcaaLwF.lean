import Derived.Test.YtpkgfkeekcgkcaaBakT
import Derived.Test.YtpkgfkeekcgkcaaLwE
/-  Back, and back again. -/
namespace Go.Proofs.Ytpkgfkeekcgkcaa
open Go.RowKit
open Lcs (few len txt mrk stk ads cnt dual)
section
variable {st : List Int} {l : List UInt8} {ad : List (List UInt8)}
theorem bkA_len12 (h : Okm l st ad) (N : Nat) : ∀ s ∈ bkA st l ad N l.length, s.length ≤ 12 := fun s hs => by
  obtain ⟨k, hk, rfl⟩ := List.mem_iff_getElem.1 hs
  have h1 := bkA_sat st l ad N l.length k
  rw [sat_eq hk] at h1
  have := h.l12
  omega
/-- what turns marks back -/
theorem Okm.back (h : Okm l st ad) {V : List UInt8} (hV : rd st l ad (l.length + 1) = V) (h12 : V.length ≤ 12) :
    Okm V (bkS st l ad (l.length + 1)) (bkA st l ad V.length l.length) ∧
    rd (bkS st l ad (l.length + 1)) V (bkA st l ad V.length l.length) (V.length + 1) = l ∧
    (bkS st l ad (l.length + 1)).length + cn (bkA st l ad V.length l.length) (V.length + 1) = st.length + cn ad (l.length + 1) ∧
    bkS (bkS st l ad (l.length + 1)) V (bkA st l ad V.length l.length) (V.length + 1) = st ∧
    bkA (bkS st l ad (l.length + 1)) V (bkA st l ad V.length l.length) l.length V.length = ad := by
  have hA := bkA_len12 h V.length
  rw [← hV] at h12 hA
  subst hV
  rw [bkA_word] at hA ⊢
  rw [bkS_word]
  have ht : txt (dual (preW st l ad (l.length + 1))) = rd st l ad (l.length + 1) := by rw [Lcs.txt_dual, pre_mrk]
  have hok := okm_of (dual (preW st l ad (l.length + 1))) (by rw [ht]; exact h12) hA
  have hpr := pre_of (dual (preW st l ad (l.length + 1)))
  have hs := bkS_word (st := stkI (dual (preW st l ad (l.length + 1)))) (l := txt (dual (preW st l ad (l.length + 1)))) (ad := ads (dual (preW st l ad (l.length + 1))))
  have ha := bkA_word (st := stkI (dual (preW st l ad (l.length + 1)))) (l := txt (dual (preW st l ad (l.length + 1)))) (ad := ads (dual (preW st l ad (l.length + 1))))
  have hr : rd (stkI (dual (preW st l ad (l.length + 1)))) (txt (dual (preW st l ad (l.length + 1)))) (ads (dual (preW st l ad (l.length + 1)))) ((txt (dual (preW st l ad (l.length + 1)))).length + 1) = l := by rw [← pre_mrk, hpr, Lcs.mrk_dual, h.txtE]
  have hc := hok.cntE
  rw [hpr, Lcs.cnt_dual, h.cntE] at hc
  rw [hpr, Lcs.dual_dual] at hs ha
  rw [hr] at ha
  rw [h.word.1] at hs
  rw [h.word.2] at ha
  rw [ht] at hok hr hc hs ha
  exact ⟨hok, hr, hc.symm, hs, ha⟩
end
end Go.Proofs.Ytpkgfkeekcgkcaa
