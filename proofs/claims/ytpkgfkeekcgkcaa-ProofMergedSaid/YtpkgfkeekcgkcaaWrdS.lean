import Derived.Test.YtpkgfkeekcgkcaaLwC
/-  Marks as words: what is read, how many, and what turns them back. -/
namespace Go.Proofs.Ytpkgfkeekcgkcaa
open Go.RowKit
open Lcs (few len txt mrk stk ads cnt dual ads_ne)
namespace Lcs
theorem txt_app : ∀ u v : List Op, txt (u ++ v) = txt u ++ txt v
  | [], _ => rfl
  | .add _ :: u, v => by rw [List.cons_append, txt, txt, txt_app u v]
  | .del _ :: u, v => by rw [List.cons_append, txt, txt, txt_app u v]; rfl
  | .keep _ :: u, v => by rw [List.cons_append, txt, txt, txt_app u v]; rfl
theorem mrk_app : ∀ u v : List Op, mrk (u ++ v) = mrk u ++ mrk v
  | [], _ => rfl
  | .add _ :: u, v => by rw [List.cons_append, mrk, mrk, mrk_app u v]; rfl
  | .del _ :: u, v => by rw [List.cons_append, mrk, mrk, mrk_app u v]
  | .keep _ :: u, v => by rw [List.cons_append, mrk, mrk, mrk_app u v]; rfl
theorem cnt_app : ∀ u v : List Op, cnt (u ++ v) = cnt u + cnt v
  | [], _ => by simp [cnt]
  | .add _ :: u, v => by rw [List.cons_append, cnt, cnt, cnt_app u v]; omega
  | .del _ :: u, v => by rw [List.cons_append, cnt, cnt, cnt_app u v]; omega
  | .keep _ :: u, v => by rw [List.cons_append, cnt, cnt, cnt_app u v]
theorem dual_app (u v : List Op) : dual (u ++ v) = dual u ++ dual v := by simp [dual]
theorem stk_app : ∀ (u v : List Op) (k : Nat), stk k (u ++ v) = stk k u ++ stk (k + (txt u).length) v
  | [], _, _ => rfl
  | .add _ :: u, v, k => by rw [List.cons_append, stk, stk, txt, stk_app u v k]
  | .del _ :: u, v, k => by rw [List.cons_append, stk, stk, txt, stk_app u v (k + 1), List.length_cons, show k + 1 + (txt u).length = k + ((txt u).length + 1) by omega]; rfl
  | .keep _ :: u, v, k => by rw [List.cons_append, stk, stk, txt, stk_app u v (k + 1), List.length_cons, show k + 1 + (txt u).length = k + ((txt u).length + 1) by omega]
/-- strings of two words behind one another: the last one of the first and the first one of the second are one -/
def jn : List (List UInt8) → List (List UInt8) → List (List UInt8)
  | [], vs => vs
  | [a], [] => [a]
  | [a], b :: l => (a ++ b) :: l
  | a :: c :: us, vs => a :: jn (c :: us) vs
theorem ads_app : ∀ u v : List Op, ads (u ++ v) = jn (ads u) (ads v)
  | [], v => by
    cases h : ads v with
    | nil => exact absurd h (ads_ne v)
    | cons b l => show ads v = _; rw [h]; rfl
  | .add x :: u, v => by
    have ih := ads_app u v
    rw [List.cons_append, ads, ads, ih]
    cases h : ads u with
    | nil => exact absurd h (ads_ne u)
    | cons a l =>
      cases l with
      | nil =>
        cases h2 : ads v with
        | nil => exact absurd h2 (ads_ne v)
        | cons b m => rfl
      | cons c l => rfl
  | .del x :: u, v => by
    have ih := ads_app u v
    rw [List.cons_append, ads, ads, ih]
    cases h : ads u with
    | nil => exact absurd h (ads_ne u)
    | cons a l => rfl
  | .keep x :: u, v => by
    have ih := ads_app u v
    rw [List.cons_append, ads, ads, ih]
    cases h : ads u with
    | nil => exact absurd h (ads_ne u)
    | cons a l => rfl
theorem jn_end (us : List (List UInt8)) (a : List UInt8) (vs : List (List UInt8)) (b : List UInt8) : jn (us ++ [a]) (b :: vs) = us ++ (a ++ b) :: vs := by
  induction us with
  | nil => rfl
  | cons c us ih =>
    cases us with
    | nil => rfl
    | cons d us => rw [List.cons_append, List.cons_append]; show c :: jn (d :: (us ++ [a])) (b :: vs) = _; rw [← List.cons_append, ih]; rfl
end Lcs
open Lcs (txt_app mrk_app cnt_app dual_app stk_app ads_app)
def opW (st : List Int) (l : List UInt8) (k : Nat) : List Lcs.Op := if k < l.length then [if hasB st k = true then .del (bt l k) else .keep (bt l k)] else []
/-- the word of the first k letters -/
def preW (st : List Int) (l : List UInt8) (ad : List (List UInt8)) : Nat → List Lcs.Op
  | 0 => []
  | k + 1 => preW st l ad k ++ ((sat ad k).map .add ++ opW st l k)
section
variable (st : List Int) (l : List UInt8) (ad : List (List UInt8))
theorem opW_txt (k : Nat) : txt (opW st l k) = if k < l.length then [bt l k] else [] := by
  rw [opW]; split
  · split <;> rfl
  · rfl
theorem opW_mrk (k : Nat) : mrk (opW st l k) = kp st l k := by
  rw [opW, kp]
  by_cases h : k < l.length
  · rw [if_pos h]
    cases hb : hasB st k
    · rw [if_neg (by simp), if_pos ⟨h, rfl⟩]; rfl
    · rw [if_pos rfl, if_neg (by simp)]; rfl
  · rw [if_neg h, if_neg (fun e => h e.1)]; rfl
theorem pre_mrk : ∀ k, mrk (preW st l ad k) = rd st l ad k
  | 0 => rfl
  | k + 1 => by rw [preW, mrk_app, pre_mrk k, Lcs.mrk_adds, opW_mrk, rd, List.append_assoc]
theorem pre_txt : ∀ k, txt (preW st l ad k) = l.take k
  | 0 => by rw [List.take_zero]; rfl
  | k + 1 => by
    rw [preW, txt_app, pre_txt k, Lcs.txt_adds, opW_txt]
    split
    · rename_i h
      rw [List.take_succ_eq_append_getElem h, bt_eq h]
    · rename_i h
      rw [List.append_nil, List.take_of_length_le (by omega), List.take_of_length_le (by omega)]
def strk (k : Nat) : List Nat := (List.range k).filter fun i => decide (i < l.length) && hasB st (i : Int)
theorem pre_stk : ∀ k, stk 0 (preW st l ad k) = strk st l k
  | 0 => rfl
  | k + 1 => by
    rw [preW, stk_app, pre_stk k, Lcs.stk_adds, pre_txt, strk, strk, List.range_succ, List.filter_append, opW]
    congr 1
    by_cases h : k < l.length
    · rw [if_pos h, List.length_take, Nat.min_eq_left (by omega), Nat.zero_add]
      cases hb : hasB st k
      · rw [if_neg (by simp)]; simp [stk, h, hb]
      · rw [if_pos rfl]; simp [stk, h, hb]
    · rw [if_neg h]; simp [stk, h]
theorem pre_cnt : ∀ k, cnt (preW st l ad k) = cn ad k + (strk st l k).length
  | 0 => rfl
  | k + 1 => by
    rw [preW, cnt_app, pre_cnt k, Lcs.cnt_adds, cn, strk, strk, List.range_succ, List.filter_append, List.length_append, opW]
    by_cases h : k < l.length
    · rw [if_pos h]
      cases hb : hasB st k
      · rw [if_neg (by simp)]; simp [cnt, h, hb]; omega
      · rw [if_pos rfl]; simp [cnt, h, hb]; omega
    · rw [if_neg h]; simp [cnt, h]; omega
end
section
variable {st : List Int} {l : List UInt8} {ad : List (List UInt8)}
theorem Okm.lt (h : Okm l st ad) : ∀ j i, i < j → j < st.length → nth st i < nth st j
  | 0, i, h1, _ => absurd h1 (Nat.not_lt_zero _)
  | j + 1, i, h1, h2 => by
    have h3 := h.si j h2
    rcases Nat.lt_or_eq_of_le (Nat.le_of_lt_succ h1) with h4 | h4
    · have := Okm.lt h j i h4 (by omega); omega
    · rw [h4]; exact h3
theorem Okm.nats (h : Okm l st ad) : (st.map Int.toNat).map (fun (i : Nat) => (i : Int)) = st := by
  rw [List.map_map]
  refine (List.map_congr_left fun x hx => ?_).trans (List.map_id st)
  obtain ⟨k, hk, rfl⟩ := List.mem_iff_getElem.1 hx
  have := h.sr k hk
  rw [nth_eq hk] at this
  simp only [Function.comp, id]
  omega
theorem Okm.stkE (h : Okm l st ad) : strk st l (l.length + 1) = st.map Int.toNat := by
  have hin : ∀ i ∈ st.map Int.toNat, 0 ≤ i ∧ i < 0 + (l.length + 1) := fun i hi => by
    obtain ⟨x, hx, rfl⟩ := List.mem_map.1 hi
    obtain ⟨k, hk, rfl⟩ := List.mem_iff_getElem.1 hx
    have := h.sr k hk
    rw [nth_eq hk] at this
    omega
  have hpw : (st.map Int.toNat).Pairwise (· < ·) := by
    rw [List.pairwise_iff_getElem]
    intro i j hi hj hij
    rw [List.length_map] at hi hj
    rw [List.getElem_map, List.getElem_map]
    have h1 := h.lt j i hij hj
    have h2 := h.sr i hi
    have h3 := h.sr j hj
    rw [nth_eq hi] at h1 h2
    rw [nth_eq hj] at h1 h3
    omega
  have e := Lcs.inc_filter (n := l.length + 1) (k := 0) hpw hin
  rw [← e, strk, List.range_eq_range']
  refine List.filter_congr fun i hi => ?_
  have hmem : (i ∈ st.map Int.toNat) ↔ hasB st (i : Int) = true := by
    rw [hasB, List.any_eq_true, List.mem_map]
    constructor
    · rintro ⟨x, hx, e⟩
      refine ⟨x, hx, ?_⟩
      obtain ⟨k, hk, rfl⟩ := List.mem_iff_getElem.1 hx
      have := h.sr k hk
      rw [nth_eq hk] at this
      simp only [beq_iff_eq]
      omega
    · rintro ⟨x, hx, e⟩
      have e2 : x = (i : Int) := by simpa using e
      exact ⟨x, hx, by rw [e2]; rfl⟩
  by_cases hb : i ∈ st.map Int.toNat
  · have h9 : i < l.length := by
      obtain ⟨x, hx, rfl⟩ := List.mem_map.1 hb
      obtain ⟨k, hk, rfl⟩ := List.mem_iff_getElem.1 hx
      have := h.sr k hk
      rw [nth_eq hk] at this
      omega
    rw [decide_eq_true hb, decide_eq_true h9, hmem.1 hb]; rfl
  · have : hasB st (i : Int) = false := by
      cases h5 : hasB st (i : Int)
      · rfl
      · exact absurd (hmem.2 h5) hb
    rw [decide_eq_false hb, this, Bool.and_false]
theorem Okm.cntE (h : Okm l st ad) : cnt (preW st l ad (l.length + 1)) = st.length + cn ad (l.length + 1) := by
  rw [pre_cnt, h.stkE, List.length_map, Nat.add_comm]
theorem Okm.txtE (_ : Okm l st ad) : txt (preW st l ad (l.length + 1)) = l := by rw [pre_txt, List.take_of_length_le (by omega)]
/-- what marks make is no nearer than they are many -/
theorem Okm.few_le (h : Okm l st ad) : few l (rd st l ad (l.length + 1)) ≤ st.length + cn ad (l.length + 1) := by
  have := Lcs.few_word (preW st l ad (l.length + 1))
  rw [h.txtE, pre_mrk, h.cntE] at this
  exact this
end
end Go.Proofs.Ytpkgfkeekcgkcaa
