import Derived.Test.YtpkgfkeekcgkcaaWrdS
/-  What Back answers is the turned word. -/
namespace Go.Proofs.Ytpkgfkeekcgkcaa
open Go.RowKit
open Lcs (few len txt mrk stk ads cnt dual ads_ne txt_app mrk_app cnt_app dual_app stk_app ads_app)
theorem dual_adds (s : List UInt8) : dual (s.map .add) = s.map .del := by simp [dual, Lcs.Op.dual]
theorem stk_dels : ∀ (s : List UInt8) (n : Nat), stk n (s.map .del) = List.range' n s.length
  | [], _ => rfl
  | x :: s, n => by rw [List.map_cons, stk, stk_dels s (n + 1), List.length_cons, List.range'_succ]
theorem txt_dels : ∀ s : List UInt8, txt (s.map .del) = s
  | [] => rfl
  | x :: s => by rw [List.map_cons, txt, txt_dels s]
theorem ads_dels : ∀ s : List UInt8, ads (s.map .del) = List.replicate s.length [] ++ [[]]
  | [] => rfl
  | x :: s => by rw [List.map_cons, ads, ads_dels s]; rfl
section
variable (st : List Int) (l : List UInt8) (ad : List (List UInt8))
def bakW (k : Nat) : List Lcs.Op := dual (preW st l ad k)
theorem bak_succ (k : Nat) : bakW st l ad (k + 1) = bakW st l ad k ++ ((sat ad k).map .del ++ dual (opW st l k)) := by
  rw [bakW, preW, dual_app, dual_app, dual_adds]; rfl
theorem bak_txt (k : Nat) : txt (bakW st l ad k) = rd st l ad k := by rw [bakW, Lcs.txt_dual, pre_mrk]
theorem bkR_nat (n m : Nat) : bkR n m = (List.range' n m).map fun (i : Nat) => (i : Int) := by
  rw [bkR, List.range'_eq_map_range, List.map_map]
  rfl
theorem opW_dual_stk (k n : Nat) : stk n (dual (opW st l k)) = [] := by
  rw [opW]; split
  · split <;> rfl
  · rfl
theorem bak_stk : ∀ k, (stk 0 (bakW st l ad k)).map (fun (i : Nat) => (i : Int)) = bkS st l ad k
  | 0 => rfl
  | k + 1 => by rw [bak_succ, stk_app, List.map_append, bak_stk k, stk_app, opW_dual_stk, List.append_nil, stk_dels, bak_txt, Nat.zero_add, bkS, bkR_nat]
theorem sat_mid (p : List (List UInt8)) (y : List UInt8) (t : List (List UInt8)) : sat (p ++ y :: t) p.length = y := by simp [sat]
theorem set_mid (p : List (List UInt8)) (y z : List UInt8) (t : List (List UInt8)) : (p ++ y :: t).set p.length z = p ++ z :: t := by simp
theorem ads_snoc (w : List Lcs.Op) : ∃ us a, ads w = us ++ [a] ∧ us.length = (txt w).length := by
  have h := Lcs.ads_len w
  have h0 : ads w ≠ [] := ads_ne w
  refine ⟨(ads w).dropLast, (ads w).getLast h0, (List.dropLast_concat_getLast h0).symm, ?_⟩
  rw [List.length_dropLast]; omega
theorem rep_split {m n : Nat} (h : n < m) : List.replicate m ([] : List UInt8) = List.replicate n [] ++ [] :: List.replicate (m - n - 1) [] := by
  rw [← List.replicate_succ, List.replicate_append_replicate, show n + (m - n - 1 + 1) = m by omega]
theorem rd_len (k : Nat) : (rd st l ad (k + 1)).length = (rd st l ad k).length + (sat ad k).length + (kp st l k).length := by rw [rd, List.length_append, List.length_append]
theorem bak_ads (N : Nat) : ∀ k, k ≤ l.length → (rd st l ad k).length + (sat ad k).length ≤ N → bkA st l ad N k = ads (bakW st l ad k) ++ List.replicate (N - (rd st l ad k).length) []
  | 0, _, _ => by
    rw [bkA]
    show _ = [[]] ++ List.replicate (N - 0) []
    rw [Nat.sub_zero]; rfl
  | k + 1, hk, hN => by
    have h1 := rd_len st l ad k
    have ih := bak_ads N k (by omega) (by omega)
    obtain ⟨us, a, hu, hul⟩ := ads_snoc (bakW st l ad k)
    rw [bak_txt] at hul
    have hkl : k < l.length := by omega
    rw [bak_succ, ads_app, hu]
    rw [hu] at ih
    rw [bkA, ih, bkP]
    cases hb : hasB st k
    · rw [if_neg (by simp)]
      have e1 : ads ((sat ad k).map .del ++ dual (opW st l k)) = List.replicate (sat ad k).length [] ++ [] :: [[]] := by
        rw [ads_app, ads_dels, opW, if_pos hkl, hb, if_neg (by simp)]
        exact Lcs.jn_end _ _ _ _
      have h2 : (kp st l k).length = 1 := by rw [kp, if_pos ⟨hkl, hb⟩]; rfl
      rw [e1]
      have e2 : List.replicate (sat ad k).length ([] : List UInt8) ++ [] :: [[]] = [] :: List.replicate ((sat ad k).length + 1) [] := by
        rw [show ([] : List UInt8) :: [[]] = List.replicate 2 [] from rfl, List.replicate_append_replicate, ← List.replicate_succ]
      rw [e2, Lcs.jn_end, List.append_nil, List.append_assoc, List.append_assoc]
      congr 1
      rw [List.cons_append, List.cons_append, List.nil_append, List.replicate_append_replicate]
      congr 2
      omega
    · rw [if_pos ⟨hkl, rfl⟩]
      have e1 : ads ((sat ad k).map .del ++ dual (opW st l k)) = List.replicate (sat ad k).length [] ++ [[bt l k]] := by
        rw [ads_app, ads_dels, opW, if_pos hkl, hb, if_pos rfl]
        exact Lcs.jn_end _ _ _ _
      have h2 : (kp st l k).length = 0 := by rw [kp, if_neg (fun e => by rw [hb] at e; cases e.2)]; rfl
      rw [e1]
      cases hn : (sat ad k).length with
      | zero =>
        have e3 : (us ++ [a]) ++ List.replicate (N - (rd st l ad k).length) [] = us ++ a :: List.replicate (N - (rd st l ad k).length) [] := by rw [List.append_assoc]; rfl
        rw [e3, Nat.add_zero, ← hul, sat_mid, set_mid]
        show _ = Lcs.jn (us ++ [a]) [[bt l k]] ++ _
        rw [Lcs.jn_end, List.append_assoc]
        congr 3
        rw [hul]
        congr 1
        omega
      | succ n =>
        have e3 : (us ++ [a]) ++ List.replicate (N - (rd st l ad k).length) [] = (us ++ [a] ++ List.replicate n []) ++ [] :: List.replicate (N - (rd st l ad k).length - n - 1) [] := by rw [rep_split (n := n) (by omega)]; simp only [List.append_assoc]
        have e4 : (rd st l ad k).length + (n + 1) = (us ++ [a] ++ List.replicate n []).length := by simp; omega
        rw [e3, e4, sat_mid, set_mid, List.replicate_succ, List.cons_append, Lcs.jn_end]
        simp only [List.append_assoc, List.cons_append, List.nil_append, List.append_nil]
        congr 4
        congr 1
        omega
end
end Go.Proofs.Ytpkgfkeekcgkcaa
