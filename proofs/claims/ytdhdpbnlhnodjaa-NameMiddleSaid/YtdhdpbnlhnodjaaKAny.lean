import Derived.Test.YtdhdpbnlhnodjaaKKind
import Derived.Test.YtdhdpbnlhnodjaaKRefG
import Derived.Test.YtdhdpbnlhnodjaaKTri
import Derived.Test.YtdhdpbnlhnodjaaKPrgF
/-  Each function of the layer, of whatever sheet and names: what it answers. -/
namespace Go.Proofs.Ytdhdpbnlhnodjaa
open Go.RowKit
open Sat (brightF mostF cntF)

def mN (ms : List (Int × Int)) : List (Nat × Nat) := ms.map fun m => (m.1.toNat, m.2.toNat)
def cN (cs : List Int) : List Nat := cs.map Int.toNat
theorem mN_map (mn : List (Nat × Nat)) : mN (mn.map prI) = mn := by
  rw [mN, List.map_map]
  conv => { rhs; rw [← List.map_id mn] }
  exact List.map_congr_left fun m _ => rfl
theorem cN_map (cn : List Nat) : cN (cn.map fun (c : Nat) => (c : Int)) = cn := by
  rw [cN, List.map_map]
  conv => { rhs; rw [← List.map_id cn] }
  exact List.map_congr_left fun m _ => rfl
def okM (l : List (Nat × Nat)) : Bool := l.all fun m => m.1 / 2 != m.2 / 2
theorem okM_ne {l : List (Nat × Nat)} (h : okM l = true) : ∀ m ∈ l, m.1 / 2 ≠ m.2 / 2 := fun m hm => by
  have := List.all_eq_true.1 h m hm
  simpa using this
def layI (ms : List (Int × Int)) (cs : List Int) : Sat.Lay := if h : okM (mN ms) = true then Sat.layS (mN ms) (cN cs) (okM_ne h) else Sat.layS [] [] (fun m hm => absurd hm (by simp))
theorem layI_eq {n : Nat} {mn : List (Nat × Nat)} {cn : List Nat} (hS : Shn n mn cn) : layI (mn.map prI) (cn.map fun (c : Nat) => (c : Int)) = hS.lay := by
  have h : okM (mN (mn.map prI)) = true := by
    rw [mN_map, okM, List.all_eq_true]
    exact fun m hm => by simpa using hS.ne m hm
  rw [layI, dif_pos h]
  show Sat.layS _ _ _ = Sat.layS _ _ _
  congr 1
  · exact mN_map mn
  · exact cN_map cn
def settI (n : Int) (ms : List (Int × Int)) (cs xs : List Int) : List (List Int) := settL n.toNat (mN ms) (cN cs) (cN xs)
theorem settI_eq (n : Nat) (mn : List (Nat × Nat)) (cn N : List Nat) : settI n (mn.map prI) (cn.map fun (c : Nat) => (c : Int)) (N.map fun (k : Nat) => (k : Int)) = settL n mn cn N := by
  rw [settI, mN_map, cN_map, cN_map, Int.toNat_natCast]
section
variable (n : Int) (ms : List (Int × Int)) (cs xs : List Int)
def setEI : Int := if nameE n ms cs xs = 0 then setE (settI n ms cs xs) else nameE n ms cs xs
def setVI : List Int := if nameE n ms cs xs = 0 then (settI n ms cs xs).headD [] else []
def cntVI : Int := if nameE n ms cs xs = 0 then ((settI n ms cs xs).length : Nat) else 0
def kindNI (p : Int) : Int := if nameE n ms cs xs = 0 then kindN n xs p (settI n ms cs xs) else 0
def kindEI (p : Int) : Int := if nameE n ms cs xs = 0 then kindE n xs p (settI n ms cs xs) else nameE n ms cs xs
def chnEI : Int := if nameE n ms cs xs = 0 then chnE (settI n ms cs xs) else nameE n ms cs xs
def chainEI (ch : List Int) : Int := if nameE n ms cs xs = 0 then chainE (layI ms cs) n xs ch else nameE n ms cs xs
noncomputable def brtVI : List Int := if vsheet n ms cs = 0 then natV (brightF (layI ms cs) n.toNat) else []
def mostVI : Int := if vsheet n ms cs = 0 then (mostF (layI ms cs) (List.range n.toNat) [] : Nat) else 0
open Classical in
noncomputable def whyEI (one : Int) : Int := if vsheet n ms cs = 0 then (if one < 0 ∨ n ≤ one then 2 else if one.toNat ∈ brightF (layI ms cs) n.toNat then 5 else 0) else vsheet n ms cs
noncomputable def whyVI (one : Int) : List Int := if whyEI n ms cs one = 0 then natV (brightF (layI ms cs) one.toNat ++ [one.toNat]) else []
end
/-- a list, and an error -/
def GivesLE (l : List Int) (E : Int) (W : World) (e : Ending) (w' : World) : Prop := ∃ v, ∃ x : Later W, e = .returned (.tuple #[v, .int .i64 E]) ∧ w' = x.w ∧ Ints x.w v l
theorem GivesLE.of {l : List Int} {E : Int} {W : World} {e : Ending} {w' : World} {v : Value} {x : Later W} {E' : Int} {l' : List Int} (h1 : e = .returned (.tuple #[v, .int .i64 E'])) (h2 : w' = x.w) (h3 : Ints x.w v l') (hE : E' = E) (hl : l' = l) : GivesLE l E W e w' := by
  subst hE hl; exact ⟨v, x, h1, h2, h3⟩
theorem gives_num {W : World} {a b c d : Int} {e : Ending} {w' : World} (h : Gives (.tuple #[.int .i64 a, .int .i64 b]) W e w') (h1 : a = c) (h2 : b = d) : Gives (.tuple #[.int .i64 c, .int .i64 d]) W e w' := by subst h1 h2; exact h
theorem gives_one {W : World} {a c : Int} {e : Ending} {w' : World} (h : Gives (.int .i64 a) W e w') (h1 : a = c) : Gives (.int .i64 c) W e w' := by subst h1; exact h
/-- natural numbers in place of names that are right -/
theorem nat_names {n : Int} {ms : List (Int × Int)} {cs xs : List Int} (h : nameE n ms cs xs = 0) :
    ∃ (k : Nat) (mn : List (Nat × Nat)) (cn N : List Nat), n = k ∧ ms = mn.map prI ∧ cs = cn.map (fun (c : Nat) => (c : Int)) ∧ xs = N.map (fun (c : Nat) => (c : Int)) ∧ Shn k mn cn ∧ Nms k N := by
  rw [nameE] at h
  split at h
  · rename_i h1; exact absurd h h1
  · rename_i h1
    have h1 : vsheet n ms cs = 0 := Classical.not_not.1 h1
    split at h
    · rename_i h2
      obtain ⟨k, mn, cn, rfl, rfl, rfl, hS⟩ := vsheet_nat h1
      obtain ⟨N, rfl, hN⟩ := namesB_nat h2
      exact ⟨k, mn, cn, N, rfl, rfl, rfl, rfl, hS, hN⟩
    · cases h
section
variable (n : Int) (mv cv nv : Value) (ms : List (Int × Int)) (cs xs : List Int) (W : World) (hs : Sht W mv cv ms cs)
include hs
theorem Set_any (hx : Ints W nv xs) : Calls Try.prog 22 #[.agg #[.int .i64 n, mv, cv], nv] W (GivesLE (setVI n ms cs xs) (setEI n ms cs xs) W) := by
  by_cases hv : nameE n ms cs xs = 0
  · obtain ⟨k, mn, cn, N, rfl, rfl, rfl, rfl, hS, hN⟩ := nat_names hv
    refine (Set_calls k mv cv nv mn cn N hS hN W hs hx).mono fun e w' h => ?_
    obtain ⟨v, x, h1, h2, h3⟩ := h
    exact GivesLE.of h1 h2 h3 (by rw [setEI, if_pos hv, settI_eq]) (by rw [setVI, if_pos hv, settI_eq])
  · refine (Set_bad n mv cv nv ms cs xs W hs hx hv).mono fun e w' h => ?_
    obtain ⟨h1, x, h2⟩ := h
    exact GivesLE.of h1 h2 (Ints.nil none 0) (by rw [setEI, if_neg hv]) (by rw [setVI, if_neg hv])

theorem refSet_any (hx : Ints W nv xs) : Calls Try.prog 23 #[.agg #[.int .i64 n, mv, cv], nv] W (GivesLE (setVI n ms cs xs) (setEI n ms cs xs) W) := by
  by_cases hv : nameE n ms cs xs = 0
  · obtain ⟨k, mn, cn, N, rfl, rfl, rfl, rfl, hS, hN⟩ := nat_names hv
    refine (refSet_calls k mv cv nv mn cn N hS hN W hs hx).mono fun e w' h => ?_
    obtain ⟨v, x, h1, h2, h3⟩ := h
    exact GivesLE.of h1 h2 h3 (by rw [setEI, if_pos hv, settI_eq]) (by rw [setVI, if_pos hv, settI_eq])
  · refine (refSet_bad n mv cv nv ms cs xs W hs hx hv).mono fun e w' h => ?_
    obtain ⟨h1, x, h2⟩ := h
    exact GivesLE.of h1 h2 (Ints.nil none 0) (by rw [setEI, if_neg hv]) (by rw [setVI, if_neg hv])

theorem Count_any (hx : Ints W nv xs) : Calls Try.prog 24 #[.agg #[.int .i64 n, mv, cv], nv] W (Gives (.tuple #[.int .i64 (cntVI n ms cs xs), .int .i64 (nameE n ms cs xs)]) W) := by
  by_cases hv : nameE n ms cs xs = 0
  · obtain ⟨k, mn, cn, N, rfl, rfl, rfl, rfl, hS, hN⟩ := nat_names hv
    refine (Count_calls k mv cv nv mn cn N hS hN W hs hx).mono fun e w' h => ?_
    refine gives_num h ?_ hv.symm
    rw [cntVI, if_pos hv, settI_eq, Sat.cntF_len, settL, List.length_map]
    congr 2
    exact List.filter_congr fun bs _ => (settL_rightP hS _).symm
  · refine (Count_bad n mv cv nv ms cs xs W hs hx hv).mono fun e w' h => ?_
    exact gives_num h (by rw [cntVI, if_neg hv]) rfl

theorem refCount_any (hx : Ints W nv xs) : Calls Try.prog 25 #[.agg #[.int .i64 n, mv, cv], nv] W (Gives (.tuple #[.int .i64 (cntVI n ms cs xs), .int .i64 (nameE n ms cs xs)]) W) := by
  by_cases hv : nameE n ms cs xs = 0
  · obtain ⟨k, mn, cn, N, rfl, rfl, rfl, rfl, hS, hN⟩ := nat_names hv
    refine (refCount_calls k mv cv nv mn cn N hS hN W hs hx).mono fun e w' h => ?_
    exact gives_num h (by rw [cntVI, if_pos hv, settI_eq]) hv.symm
  · refine (refCount_bad n mv cv nv ms cs xs W hs hx hv).mono fun e w' h => ?_
    exact gives_num h (by rw [cntVI, if_neg hv]) rfl

theorem Kind_any (hx : Ints W nv xs) (p : Int) : Calls Try.prog 27 #[.agg #[.int .i64 n, mv, cv], nv, .int .i64 p] W (Gives (.tuple #[.int .i64 (kindNI n ms cs xs p), .int .i64 (kindEI n ms cs xs p)]) W) := by
  by_cases hv : nameE n ms cs xs = 0
  · obtain ⟨k, mn, cn, N, rfl, rfl, rfl, rfl, hS, hN⟩ := nat_names hv
    refine (Kind_calls k mv cv nv p mn cn N hS hN W hs hx).mono fun e w' h => ?_
    exact gives_num h (by rw [kindNI, if_pos hv, settI_eq]) (by rw [kindEI, if_pos hv, settI_eq])
  · refine (Kind_bad n mv cv nv p ms cs xs W hs hx hv).mono fun e w' h => ?_
    exact gives_num h (by rw [kindNI, if_neg hv]) (by rw [kindEI, if_neg hv])

theorem refKind_any (hx : Ints W nv xs) (p : Int) : Calls Try.prog 28 #[.agg #[.int .i64 n, mv, cv], nv, .int .i64 p] W (Gives (.tuple #[.int .i64 (kindNI n ms cs xs p), .int .i64 (kindEI n ms cs xs p)]) W) := by
  by_cases hv : nameE n ms cs xs = 0
  · obtain ⟨k, mn, cn, N, rfl, rfl, rfl, rfl, hS, hN⟩ := nat_names hv
    refine (refKind_calls k mv cv nv p mn cn N hS hN W hs hx).mono fun e w' h => ?_
    exact gives_num h (by rw [kindNI, if_pos hv, settI_eq]) (by rw [kindEI, if_pos hv, settI_eq])
  · refine (refKind_bad n mv cv nv p ms cs xs W hs hx hv).mono fun e w' h => ?_
    exact gives_num h (by rw [kindNI, if_neg hv]) (by rw [kindEI, if_neg hv])

theorem ChainError_any (hx : Ints W nv xs) : Calls Try.prog 30 #[.agg #[.int .i64 n, mv, cv], nv] W (Gives (.int .i64 (chnEI n ms cs xs)) W) := by
  by_cases hv : nameE n ms cs xs = 0
  · obtain ⟨k, mn, cn, N, rfl, rfl, rfl, rfl, hS, hN⟩ := nat_names hv
    refine (ChainError_calls k mv cv nv mn cn N hS hN W hs hx).mono fun e w' h => ?_
    exact gives_one h (by rw [chnEI, if_pos hv, settI_eq])
  · refine (ChainError_bad n mv cv nv ms cs xs W hs hx hv).mono fun e w' h => ?_
    exact gives_one h (by rw [chnEI, if_neg hv])

theorem CheckChain_any (hx : Ints W nv xs) (lv : Value) (ch : List Int) (hc : Ints W lv ch) : Calls Try.prog 31 #[.agg #[.int .i64 n, mv, cv], nv, lv] W (Gives (.int .i64 (chainEI n ms cs xs ch)) W) := by
  by_cases hv : nameE n ms cs xs = 0
  · obtain ⟨k, mn, cn, N, rfl, rfl, rfl, rfl, hS, hN⟩ := nat_names hv
    refine (CheckChain_calls k mv cv nv lv ch mn cn N hS hN W hs hx hc).mono fun e w' h => ?_
    exact gives_one h (by rw [chainEI, if_pos hv, layI_eq hS])
  · refine (CheckChain_bad n mv cv nv lv ch ms cs xs W hs hx hc hv).mono fun e w' h => ?_
    exact gives_one h (by rw [chainEI, if_neg hv])

theorem refCheckChain_any (hx : Ints W nv xs) (lv : Value) (ch : List Int) (hc : Ints W lv ch) : Calls Try.prog 32 #[.agg #[.int .i64 n, mv, cv], nv, lv] W (Gives (.int .i64 (chainEI n ms cs xs ch)) W) := by
  by_cases hv : nameE n ms cs xs = 0
  · obtain ⟨k, mn, cn, N, rfl, rfl, rfl, rfl, hS, hN⟩ := nat_names hv
    refine (refCheckChain_calls k mv cv nv lv mn cn N ch hS hN W hs hx hc).mono fun e w' h => ?_
    exact gives_one h (by rw [chainEI, if_pos hv, layI_eq hS])
  · refine (refCheckChain_bad n mv cv nv lv ms cs xs W hs hx ch hc hv).mono fun e w' h => ?_
    exact gives_one h (by rw [chainEI, if_neg hv])

end
end Go.Proofs.Ytdhdpbnlhnodjaa

/-  Each function of the layer, of whatever sheet and names: chains, the brightest names, the greatest number. -/
namespace Go.Proofs.Ytdhdpbnlhnodjaa
open Go.RowKit
open Sat (brightF mostF IsChain Path)

theorem path_get {L : Sat.Lay} {N : List Nat} : ∀ {l : List Nat}, Path L N l → ∀ k (h : k + 1 < l.length), Sat.lead L (l[k]'(by omega)) l[k + 1] = true
  | [], _, k, h => absurd h (by simp)
  | [_], _, k, h => absurd h (by simp)
  | x :: y :: l, hp, 0, _ => hp.1
  | x :: y :: l, hp, k + 1, h => path_get (l := y :: l) hp.2.2 k (by simpa using h)
theorem get_path {L : Sat.Lay} {N : List Nat} : ∀ {l : List Nat}, (∀ p ∈ l, p / 2 ∈ N) → (∀ k (h : k + 1 < l.length), Sat.lead L (l[k]'(by omega)) l[k + 1] = true) → Path L N l
  | [], _, _ => trivial
  | [_], _, _ => trivial
  | x :: y :: l, hN, h => ⟨h 0 (by simp), hN y (by simp), get_path (l := y :: l) (fun p hp => hN p (by simp [hp])) fun k hk => h (k + 1) (by simpa using hk)⟩
theorem nth_natV {l : List Nat} {k : Nat} (h : k < l.length) : nth (natV l) k = (l[k] : Nat) := by rw [nth_eq (by rw [natV_len]; exact h)]; simp [natV]
theorem natV_toNat {l : List Nat} {k : Nat} (h : k < l.length) : (nth (natV l) k).toNat = l[k] := by rw [nth_natV h, Int.toNat_natCast]
theorem kindB_nat {n : Nat} {N : List Nat} (hN : Nms n N) {p : Nat} : kindB n (N.map fun (k : Nat) => (k : Int)) (p : Int) = true ↔ p / 2 ∈ N := by
  rw [kindB, Bool.and_eq_true, show (p : Int) / 2 = ((p / 2 : Nat) : Int) by omega, hasB_nat, List.contains_iff_mem, isPl, Bool.and_eq_true, decide_eq_true_iff, decide_eq_true_iff]
  constructor
  · exact fun h => h.2
  · exact fun h => ⟨by have := hN.lt _ h; omega, h⟩
/-- a list is a chain just if CheckChain says so -/
theorem chainE_nat {L : Sat.Lay} {n : Nat} {N : List Nat} (hN : Nms n N) (l : List Nat) : chainE L n (N.map fun (k : Nat) => (k : Int)) (natV l) = 0 ↔ IsChain L N l := by
  rw [chainE, natV_len]
  have hst : (natV l).any (straK n (N.map fun (k : Nat) => (k : Int))) = true ↔ ¬ ∀ p ∈ l, p / 2 ∈ N := by
    rw [natV, List.any_map, List.any_eq_true]
    constructor
    · rintro ⟨p, hp, h⟩ hall
      have h1 := (kindB_nat hN).2 (hall p hp)
      simp only [Function.comp, straK, h1] at h
      cases h
    · intro h
      simp only [Classical.not_forall] at h
      obtain ⟨p, hp, h⟩ := h
      refine ⟨p, hp, ?_⟩
      have h1 : kindB n (N.map fun (k : Nat) => (k : Int)) (p : Int) = false := by
        cases hk : kindB n (N.map fun (k : Nat) => (k : Int)) (p : Int)
        · rfl
        · exact absurd ((kindB_nat hN).1 hk) h
      simp [Function.comp, straK, h1]
  constructor
  · intro h
    by_cases h1 : l.length < 3 ∨ 50 < l.length
    · rw [if_pos h1] at h; cases h
    · rw [if_neg h1] at h
      by_cases h2 : (natV l).any (straK n (N.map fun (k : Nat) => (k : Int))) = true
      · rw [if_pos h2] at h; cases h
      · rw [if_neg h2] at h
        have hin : ∀ p ∈ l, p / 2 ∈ N := Classical.not_not.1 fun h3 => h2 (hst.2 h3)
        by_cases h3 : (pthB L (natV l) && endB (natV l)) = true
        · rw [Bool.and_eq_true] at h3
          obtain ⟨h4, h5⟩ := h3
          have hl0 : 0 < l.length := by omega
          rw [endB, Bool.and_eq_true, beq_iff_eq, natV_len, nth_natV (by omega), nth_natV hl0, Int.toNat_natCast, natV, hasB_nat, List.contains_iff_mem] at h5
          refine ⟨by omega, by omega, hin, get_path hin fun k hk => ?_, ?_, fun p hp => ?_⟩
          · have h6 := List.all_eq_true.1 h4 k (List.mem_range.2 (by rw [natV_len]; omega))
            rw [stpB, natV_toNat (by omega), natV_toNat hk] at h6
            exact h6
          · rw [List.getLast?_eq_getElem?, List.head?_eq_getElem?, List.getElem?_eq_getElem (by omega), List.getElem?_eq_getElem hl0]
            exact congrArg some (by have := h5.1; omega)
          · rw [List.head?_eq_getElem?, List.getElem?_eq_getElem hl0] at hp
            rw [← Option.some.inj hp]; exact h5.2
        · rw [if_neg h3] at h; cases h
  · rintro ⟨h1, h2, h3, h4, h5, h6⟩
    have hl0 : 0 < l.length := by omega
    rw [if_neg (by omega), if_neg (fun h => (hst.1 h) h3), if_pos]
    rw [Bool.and_eq_true]
    refine ⟨pthB_yes fun j hj => ?_, ?_⟩
    · rw [natV_len] at hj
      rw [stpB, natV_toNat (by omega), natV_toNat hj]
      exact path_get h4 j hj
    · rw [endB, Bool.and_eq_true, beq_iff_eq, natV_len, nth_natV (by omega), nth_natV hl0, Int.toNat_natCast, natV, hasB_nat, List.contains_iff_mem]
      rw [List.getLast?_eq_getElem?, List.head?_eq_getElem?, List.getElem?_eq_getElem (by omega), List.getElem?_eq_getElem hl0] at h5
      exact ⟨by rw [Option.some.inj h5], h6 _ (by rw [List.head?_eq_getElem?, List.getElem?_eq_getElem hl0])⟩
theorem why_in {k : Nat} {mn : List (Nat × Nat)} {cn : List Nat} (hS : Shn k mn cn) {q : Nat} (hq : q < k) : whyEI k (mn.map prI) (cn.map fun (c : Nat) => (c : Int)) (q : Int) = if q ∈ brightF hS.lay k then 5 else 0 := by
  rw [whyEI, if_pos hS.v, if_neg (by omega), layI_eq hS, Int.toNat_natCast, Int.toNat_natCast]
theorem why_out {k : Nat} {mn : List (Nat × Nat)} {cn : List Nat} (hS : Shn k mn cn) {one : Int} (ho : one < 0 ∨ (k : Int) ≤ one) : whyEI k (mn.map prI) (cn.map fun (c : Nat) => (c : Int)) one = 2 := by
  rw [whyEI, if_pos hS.v, if_pos ho]
theorem whyF_mem {L : Sat.Lay} {q k : Nat} (hq : q < k) : whyF L (q + 1) = none ↔ q ∈ brightF L k := by
  rw [Sat.brightF_mem L hq, whyF]
  by_cases h : Sat.Can L (brightF L q ++ [q]) []
  · rw [if_pos h]; simp [h]
  · rw [if_neg h]; simp [h]
theorem why_val {k : Nat} {mn : List (Nat × Nat)} {cn : List Nat} (hS : Shn k mn cn) {q : Nat} (hq : q < k) (h0 : ¬ q ∈ brightF hS.lay k) : whyVI k (mn.map prI) (cn.map fun (c : Nat) => (c : Int)) (q : Int) = natV (brightF hS.lay q ++ [q]) := by
  rw [whyVI, if_pos (by rw [why_in hS hq, if_neg h0]), layI_eq hS, Int.toNat_natCast]
section
variable (n : Int) (mv cv nv : Value) (ms : List (Int × Int)) (cs xs : List Int)
/-- an error, and a list, which is a chain where there is none -/
def ChainG (E : Int) (W : World) (e : Ending) (w' : World) : Prop :=
  ∃ v, ∃ x : Later W, ∃ l, e = .returned (.tuple #[v, .int .i64 E]) ∧ w' = x.w ∧ Ints x.w v l ∧ (E = 0 → chainEI n ms cs xs l = 0 ∧ ∃ k, l = natV k) ∧ (E ≠ 0 → l = [])
variable (W : World) (hs : Sht W mv cv ms cs)
include hs
theorem Chain_any (hx : Ints W nv xs) : Calls Try.prog 29 #[.agg #[.int .i64 n, mv, cv], nv] W (ChainG n ms cs xs (chnEI n ms cs xs) W) := by
  by_cases hv : nameE n ms cs xs = 0
  · obtain ⟨k, mn, cn, N, rfl, rfl, rfl, rfl, hS, hN⟩ := nat_names hv
    refine (Chain_calls k mv cv nv mn cn N hS hN W hs hx).mono fun e w' h => ?_
    obtain ⟨v, x, h1, h2⟩ := h
    have hE : chnEI k (mn.map prI) (cn.map fun (c : Nat) => (c : Int)) (N.map fun (c : Nat) => (c : Int)) = chnE (settL k mn cn N) := by rw [chnEI, if_pos hv, settI_eq]
    rcases h2 with ⟨h3, rfl, rfl⟩ | ⟨l, rfl, h4, h5⟩
    · have h6 : chnE (settL k mn cn N) = 5 := chnE_ne ((settL_can hS hN.nodup).2 (Sat.can_nil.2 h3))
      exact ⟨_, x, [], by rw [hE, h6], h1, Ints.nil _ _, fun h => (by rw [hE, h6] at h; cases h), fun _ => rfl⟩
    · have h6 : chnE (settL k mn cn N) = 0 := by rw [settL_nil hS hN.nodup fun h => h5.none h.noChain]; rfl
      exact ⟨v, x, natV l, by rw [hE, h6], h1, h4, fun _ => ⟨by rw [chainEI, if_pos hv, layI_eq hS]; exact (chainE_nat hN l).2 h5, l, rfl⟩, fun h => absurd (by rw [hE, h6]) h⟩
  · refine (Chain_bad n mv cv nv ms cs xs W hs hx hv).mono fun e w' h => ?_
    obtain ⟨h1, x, h2⟩ := h
    have hE : chnEI n ms cs xs = nameE n ms cs xs := by rw [chnEI, if_neg hv]
    exact ⟨_, x, [], by rw [hE]; exact h1, h2, Ints.nil _ _, fun h => absurd (by rw [← hE]; exact h) hv, fun _ => rfl⟩
theorem Most_any  : Calls Try.prog 36 #[.agg #[.int .i64 n, mv, cv]] W (Gives (.tuple #[.int .i64 (mostVI n ms cs), .int .i64 (vsheet n ms cs)]) W) := by
  by_cases hv : vsheet n ms cs = 0
  · obtain ⟨k, mn, cn, rfl, rfl, rfl, hS⟩ := vsheet_nat hv
    refine (Most_calls k mv cv mn cn hS W hs).mono fun e w' h => ?_
    exact gives_num h (by rw [mostVI, if_pos hv, layI_eq hS, Int.toNat_natCast]) hv.symm
  · refine (Most_bad n mv cv ms cs W hs hv).mono fun e w' h => ?_
    exact gives_num h (by rw [mostVI, if_neg hv]) rfl

theorem refMost_any  : Calls Try.prog 37 #[.agg #[.int .i64 n, mv, cv]] W (Gives (.tuple #[.int .i64 (mostVI n ms cs), .int .i64 (vsheet n ms cs)]) W) := by
  by_cases hv : vsheet n ms cs = 0
  · obtain ⟨k, mn, cn, rfl, rfl, rfl, hS⟩ := vsheet_nat hv
    refine (refMost_calls k mv cv mn cn hS W hs).mono fun e w' h => ?_
    exact gives_num h (by rw [mostVI, if_pos hv, layI_eq hS, Int.toNat_natCast]) hv.symm
  · refine (refMost_bad n mv cv ms cs W hs hv).mono fun e w' h => ?_
    exact gives_num h (by rw [mostVI, if_neg hv]) rfl

theorem Brightest_any  : Calls Try.prog 34 #[.agg #[.int .i64 n, mv, cv]] W (GivesLE (brtVI n ms cs) (vsheet n ms cs) W) := by
  by_cases hv : vsheet n ms cs = 0
  · obtain ⟨k, mn, cn, rfl, rfl, rfl, hS⟩ := vsheet_nat hv
    refine (Brightest_calls k mv cv mn cn hS W hs).mono fun e w' h => ?_
    obtain ⟨v, x, h1, h2, h3⟩ := h
    exact GivesLE.of h1 h2 h3 hv.symm (by rw [brtVI, if_pos hv, layI_eq hS, Int.toNat_natCast]; rfl)
  · refine (Brightest_bad n mv cv ms cs W hs hv).mono fun e w' h => ?_
    obtain ⟨h1, x, h2⟩ := h
    exact GivesLE.of h1 h2 (Ints.nil none 0) rfl (by rw [brtVI, if_neg hv])

theorem refBrightest_any  : Calls Try.prog 35 #[.agg #[.int .i64 n, mv, cv]] W (GivesLE (brtVI n ms cs) (vsheet n ms cs) W) := by
  by_cases hv : vsheet n ms cs = 0
  · obtain ⟨k, mn, cn, rfl, rfl, rfl, hS⟩ := vsheet_nat hv
    refine (refBrightest_calls k mv cv mn cn hS W hs).mono fun e w' h => ?_
    obtain ⟨v, x, h1, h2, h3⟩ := h
    exact GivesLE.of h1 h2 h3 hv.symm (by rw [brtVI, if_pos hv, layI_eq hS, Int.toNat_natCast]; rfl)
  · refine (refBrightest_bad n mv cv ms cs W hs hv).mono fun e w' h => ?_
    obtain ⟨h1, x, h2⟩ := h
    exact GivesLE.of h1 h2 (Ints.nil none 0) rfl (by rw [brtVI, if_neg hv])

theorem CheckSetting_any (sv : Value) (st : List Int) (hx : Ints W sv st) : Calls Try.prog 18 #[.agg #[.int .i64 n, mv, cv], sv] W (Gives (.tuple #[.int .i64 (settN n ms cs st), .int .i64 (settE n ms cs st)]) W) := by
  by_cases hv : vsheet n ms cs = 0
  · obtain ⟨k, mn, cn, rfl, rfl, rfl, hS⟩ := vsheet_nat hv
    exact CheckSetting_calls k mv cv sv mn cn st hS W hs hx
  · exact CheckSetting_bad n mv cv sv ms cs st W hs hx hv
theorem Why_any (one : Int) : Calls Try.prog 38 #[.agg #[.int .i64 n, mv, cv], .int .i64 one] W (ChainG n ms cs (whyVI n ms cs one) (whyEI n ms cs one) W) := by
  by_cases hv : vsheet n ms cs = 0
  · obtain ⟨k, mn, cn, rfl, rfl, rfl, hS⟩ := vsheet_nat hv
    by_cases ho : one < 0 ∨ (k : Int) ≤ one
    · refine (Why_out k mv cv one ho mn cn hS W hs).mono fun e w' h => ?_
      obtain ⟨h1, x, h2⟩ := h
      have hE := why_out hS ho
      exact ⟨_, x, [], by rw [hE]; exact h1, h2, Ints.nil _ _, fun h => (by rw [hE] at h; cases h), fun _ => rfl⟩
    · obtain ⟨q, rfl⟩ := Int.eq_ofNat_of_zero_le (show 0 ≤ one by omega)
      have hq : q < k := by omega
      refine (Why_calls k mv cv q hq mn cn hS W hs).mono fun e w' h => ?_
      obtain ⟨v, x, h1, h2⟩ := h
      rcases h2 with ⟨h3, rfl, rfl⟩ | ⟨l, h3, rfl, h4, h5⟩
      · have hE : whyEI k (mn.map prI) (cn.map fun (c : Nat) => (c : Int)) (q : Int) = 5 := by rw [why_in hS hq, if_pos ((whyF_mem hq).1 h3)]
        exact ⟨_, x, [], by rw [hE], h1, Ints.nil _ _, fun h => (by rw [hE] at h; cases h), fun _ => rfl⟩
      · have h0 : ¬ q ∈ brightF hS.lay k := fun h => by rw [(whyF_mem hq).2 h] at h3; cases h3
        have hE : whyEI k (mn.map prI) (cn.map fun (c : Nat) => (c : Int)) (q : Int) = 0 := by rw [why_in hS hq, if_neg h0]
        refine ⟨v, x, natV l, by rw [hE], h1, h4, fun _ => ⟨?_, l, rfl⟩, fun h => absurd hE h⟩
        rw [why_val hS hq h0, chainEI, if_pos (show nameE k (mn.map prI) (cn.map fun (c : Nat) => (c : Int)) (natV (brightF hS.lay q ++ [q])) = 0 from nameE_nat hS (bright_nms hq)), layI_eq hS]
        exact (chainE_nat (bright_nms hq) l).2 h5
  · refine (Why_bad n mv cv one ms cs W hs hv).mono fun e w' h => ?_
    obtain ⟨h1, x, h2⟩ := h
    have hE : whyEI n ms cs one = vsheet n ms cs := by rw [whyEI, if_neg hv]
    exact ⟨_, x, [], by rw [hE]; exact h1, h2, Ints.nil _ _, fun h => absurd (by rw [← hE]; exact h) hv, fun _ => rfl⟩
theorem WhyError_any (one : Int) : Calls Try.prog 39 #[.agg #[.int .i64 n, mv, cv], .int .i64 one] W (GivesLE (whyVI n ms cs one) (whyEI n ms cs one) W) := by
  by_cases hv : vsheet n ms cs = 0
  · obtain ⟨k, mn, cn, rfl, rfl, rfl, hS⟩ := vsheet_nat hv
    by_cases ho : one < 0 ∨ (k : Int) ≤ one
    · refine (WhyError_out k mv cv one ho mn cn hS W hs).mono fun e w' h => ?_
      obtain ⟨h1, x, h2⟩ := h
      exact GivesLE.of h1 h2 (Ints.nil none 0) (why_out hS ho).symm (by rw [whyVI, if_neg (by rw [why_out hS ho]; decide)])
    · obtain ⟨q, rfl⟩ := Int.eq_ofNat_of_zero_le (show 0 ≤ one by omega)
      have hq : q < k := by omega
      refine (WhyError_in k mv cv q hq mn cn hS W hs).mono fun e w' h => ?_
      by_cases h0 : q ∈ brightF hS.lay k
      · obtain ⟨h1, x, h2⟩ := h.1 h0
        have hE : whyEI k (mn.map prI) (cn.map fun (c : Nat) => (c : Int)) (q : Int) = 5 := by rw [why_in hS hq, if_pos h0]
        exact GivesLE.of h1 h2 (Ints.nil none 0) hE.symm (by rw [whyVI, if_neg (by rw [hE]; decide)])
      · obtain ⟨v, x, h1, h2, h3⟩ := h.2 h0
        exact GivesLE.of h1 h2 h3 (by rw [why_in hS hq, if_neg h0]) (why_val hS hq h0).symm
  · refine (WhyError_bad n mv cv one ms cs W hs hv).mono fun e w' h => ?_
    obtain ⟨h1, x, h2⟩ := h
    have hE : whyEI n ms cs one = vsheet n ms cs := by rw [whyEI, if_neg hv]
    exact GivesLE.of h1 h2 (Ints.nil none 0) hE.symm (by rw [whyVI, if_neg (by rw [hE]; exact hv)])
end
end Go.Proofs.Ytdhdpbnlhnodjaa

/-  The laws' own functions: equal lists, what is too great, what is valid. -/
namespace Go.Proofs.Ytdhdpbnlhnodjaa
open Go.RowKit

/-- two lists are equal -/
def eqF : List Int → List Int → Bool
  | x :: xs, y :: ys => x == y && eqF xs ys
  | _, _ => true
def eqI (xs ys : List Int) : Bool := decide (xs.length = ys.length) && eqF xs ys
theorem eqF_at (xs ys : List Int) (k : Nat) (h : k < xs.length) (h' : k < ys.length) : eqF (xs.drop k) (ys.drop k) = (nth xs k == nth ys k && eqF (xs.drop (k + 1)) (ys.drop (k + 1))) := by
  rw [List.drop_eq_getElem_cons h, List.drop_eq_getElem_cons h', eqF, nth_eq h, nth_eq h']
theorem eqF_end (xs ys : List Int) (k : Nat) (h : xs.length ≤ k) : eqF (xs.drop k) (ys.drop k) = true := by
  rw [List.drop_eq_nil_of_le h, eqF]; simp
theorem eqF_iff : ∀ (xs ys : List Int), xs.length = ys.length → (eqF xs ys = true ↔ xs = ys)
  | [], [], _ => by simp [eqF]
  | x :: xs, y :: ys, h => by
    rw [eqF, Bool.and_eq_true, eqF_iff xs ys (by simpa using h)]
    simp
theorem eqI_iff (xs ys : List Int) : eqI xs ys = true ↔ xs = ys := by
  rw [eqI, Bool.and_eq_true, decide_eq_true_iff]
  constructor
  · rintro ⟨h, h2⟩; exact (eqF_iff xs ys h).1 h2
  · rintro rfl; exact ⟨rfl, (eqF_iff xs xs rfl).2 rfl⟩

set_option maxRecDepth 100000 in
set_option maxHeartbeats 1000000 in
theorem IntsEq_calls (u v : Value) (xs ys : List Int) (w : World) (hx : Ints w u xs) (hy : Ints w v ys) :
    Calls Try.prog 26 #[u, v] w (Gives (.bool (eqI xs ys)) w) := by
  have hlx := hx.1
  have hly := hy.1
  obtain ⟨au, cu, rfl⟩ := hx.form
  obtain ⟨av, cv, rfl⟩ := hy.form
  go_enter Try.func26, Try.ntmps26
  by_cases hl : xs.length = ys.length
  rotate_left
  · have hv := Lib.hid (show eqI xs ys = false by rw [eqI, decide_eq_false hl]; rfl)
    have hne : ((xs.length : Int) != (ys.length : Int)) = true := by simp; omega
    go_wp2
    go_ret
    exact ⟨ret_bool hv.out.symm, Later.self _, rfl⟩
  · have hv := Lib.hid (show eqI xs ys = eqF xs ys by rw [eqI, decide_eq_true hl]; rfl)
    have hne : ((xs.length : Int) != (ys.length : Int)) = false := by simp; omega
    have hl := Lib.hid hl
    go_wp2
    go_loopw [5] (fun i wr => ∃ k : Nat, ∃ x : Later w, wr = x.w ∧ k ≤ xs.length ∧ i = .int .i64 k ∧ Hid (eqF xs ys = eqF (xs.drop k) (ys.drop k))) (fun i _ => xs.length - (intOf i).toNat)
    case atStart => exact ⟨0, Later.self _, rfl, Nat.zero_le _, rfl, rfl⟩
    case round =>
      obtain ⟨k, x, rfl, hk, rfl, hp⟩ := hrel
      by_cases hlt : k < xs.length
      · have hlt' : k < ys.length := by have := hl.out; omega
        obtain ⟨bx, ox, cx, e, hcx, hbx, hgx⟩ := hx.at hlt
        cases e
        obtain ⟨by', oy, cy, e, hcy, hby, hgy⟩ := hy.at hlt'
        cases e
        have gx := (x.cell hbx).trans (hgx k hlt)
        have gy := (x.cell hby).trans (hgy k hlt')
        have sx : bx < x.w.heap.size := Nat.lt_of_lt_of_le hbx x.size
        have sy : by' < x.w.heap.size := Nat.lt_of_lt_of_le hby x.size
        have hs := Lib.hid (eqF_at xs ys k hlt hlt')
        clear hgx hgy
        cases he : (nth xs k == nth ys k)
        all_goals
          have hne2 : (nth xs k != nth ys k) = !(nth xs k == nth ys k) := rfl
          rw [he] at hne2
          go_wp2
          refine Mix.region_mixL (Mix.kinds [] [] []) (by kernel_rfl) (by kernel_rfl) ?_
          repeat ((with_reducible refine Mix.atCons ?_); first | refine Mix.skipU (by rfl) rfl (by rfl) ?_ | (refine Mix.val rfl rfl (by rfl) (fun K hK => ?_); go_big_quiet_op; refine hK _ ?_; clear hK K) | simp only [hne2] | (refine Mix.skip (by rfl) ?_; go_frame))
          refine Mix.done (fun z => ?_)
          go_wp2
        · go_ret
          exact ⟨ret_bool (by rw [hv.out, hp.out, hs.out, he]; rfl), x.step z, rfl⟩
        · go_roundw
          case rel => exact ⟨k + 1, x.step z, rfl, by omega, by go_num, by unfold Hid; rw [hp.out, hs.out, he, Bool.true_and]⟩
          case measure => simp [intOf]; omega
      · have he := Lib.hid (eqF_end xs ys k (by omega))
        go_wp2
        go_ret
        exact ⟨ret_bool (by rw [hv.out, hp.out, he.out]), x, rfl⟩


theorem eqI_self (xs : List Int) : eqI xs xs = true := (eqI_iff xs xs).2 rfl
theorem of_calls (a : Option Addr) (n c : Nat) (w : World) : Calls Try.prog 51 #[.slice a n c] w fun e w' => e = .returned (.slice a n c) ∧ w' = w := by
  go_enter Try.func51, Try.ntmps51
  go_wp2
  go_ret
  exact ⟨rfl, rfl⟩
def greatB (ms : List (Int × Int)) (cs : List Int) : Bool := decide (50 < ms.length) || decide (30 < cs.length)
def wideB (n : Int) (ms : List (Int × Int)) (cs : List Int) : Bool := decide (vsheet n ms cs = 0) && decide (7 < n)
def fineB (n : Int) (ms : List (Int × Int)) (cs : List Int) : Bool := decide (vsheet n ms cs = 0)
theorem vsheet_great {n : Int} {ms : List (Int × Int)} {cs : List Int} (h : vsheet n ms cs = 0) : greatB ms cs = false := by
  obtain ⟨k, rfl, h1, h2, h3, h4, _⟩ := vsheet_zero h
  rw [greatB, decide_eq_false (by omega), decide_eq_false (by omega)]; rfl
set_option maxRecDepth 100000 in
set_option maxHeartbeats 1000000 in
theorem great_calls (n : Int) (mv cv : Value) (ms : List (Int × Int)) (cs : List Int) (W : World) (hs : Sht W mv cv ms cs) :
    Calls Try.prog 16 #[.agg #[.int .i64 n, mv, cv]] W (Gives (.bool (greatB ms cs)) W) := by
  have hml := hs.m.1
  have hcl := hs.c.1
  obtain ⟨am, lm, cm, rfl⟩ : ∃ a n c, mv = .slice a n c := by obtain ⟨a, c, e⟩ := hs.m.form; exact ⟨a, _, c, e⟩
  obtain ⟨ac, lc, cc, rfl⟩ : ∃ a n c, cv = .slice a n c := by obtain ⟨a, c, e⟩ := hs.c.form; exact ⟨a, _, c, e⟩
  have HLM := Lib.hid (show lm = ms.length by obtain ⟨a, c, e⟩ := hs.m.form; cases e; rfl)
  have HLC := Lib.hid (show lc = cs.length by obtain ⟨a, c, e⟩ := hs.c.form; cases e; rfl)
  rw [← HLM.out] at hml
  rw [← HLC.out] at hcl
  by_cases h1 : 50 < lm
  · have d1 : decide ((50 : Int) < lm) = true := decide_eq_true (by omega)
    have HR := Lib.hid (show greatB ms cs = true by rw [greatB, decide_eq_true (by rw [← HLM.out]; exact h1)]; rfl)
    go_enter Try.func16, Try.ntmps16
    go_wp2
    go_ret
    exact ⟨ret_bool HR.out.symm, Later.new _ _, rfl⟩
  · have d1 : decide ((50 : Int) < lm) = false := decide_eq_false (by omega)
    by_cases h2 : 30 < lc
    · have d2 : decide ((30 : Int) < lc) = true := decide_eq_true (by omega)
      have HR := Lib.hid (show greatB ms cs = true by rw [greatB, decide_eq_true (show 30 < cs.length by rw [← HLC.out]; exact h2), Bool.or_true])
      go_enter Try.func16, Try.ntmps16
      go_wp2
      go_ret
      exact ⟨ret_bool HR.out.symm, Later.new _ _, rfl⟩
    · have d2 : decide ((30 : Int) < lc) = false := decide_eq_false (by omega)
      have HR := Lib.hid (show greatB ms cs = false by rw [greatB, decide_eq_false (show ¬ 50 < ms.length by rw [← HLM.out]; exact h1), decide_eq_false (show ¬ 30 < cs.length by rw [← HLC.out]; exact h2)]; rfl)
      go_enter Try.func16, Try.ntmps16
      go_wp2
      go_ret
      exact ⟨ret_bool HR.out.symm, Later.new _ _, rfl⟩

set_option maxRecDepth 100000 in
set_option maxHeartbeats 1000000 in
theorem wide_calls (n : Int) (mv cv : Value) (ms : List (Int × Int)) (cs : List Int) (W : World) (hs : Sht W mv cv ms cs) :
    Calls Try.prog 33 #[.agg #[.int .i64 n, mv, cv]] W (Gives (.bool (wideB n ms cs)) W) := by
  have hml := hs.m.1
  have hcl := hs.c.1
  obtain ⟨am, lm, cm, rfl⟩ : ∃ a n c, mv = .slice a n c := by obtain ⟨a, c, e⟩ := hs.m.form; exact ⟨a, _, c, e⟩
  obtain ⟨ac, lc, cc, rfl⟩ : ∃ a n c, cv = .slice a n c := by obtain ⟨a, c, e⟩ := hs.c.form; exact ⟨a, _, c, e⟩
  have HLM := Lib.hid (show lm = ms.length by obtain ⟨a, c, e⟩ := hs.m.form; cases e; rfl)
  have HLC := Lib.hid (show lc = cs.length by obtain ⟨a, c, e⟩ := hs.c.form; cases e; rfl)
  rw [← HLM.out] at hml
  rw [← HLC.out] at hcl
  have HCS := Lib.hid (fun (V : World) (hV : Sht V (.slice am lm cm) (.slice ac lc cc) ms cs) => refCheckSheet_calls n _ _ ms cs V hV)
  obtain ⟨E, hE⟩ : ∃ E, vsheet n ms cs = E := ⟨_, rfl⟩
  have HE := Lib.hid hE
  rw [wideB]
  rw [hE] at HCS ⊢
  clear hE
  by_cases h0 : E = 0
  · subst h0
    go_enter Try.func33, Try.ntmps33
    go_wp2_with fail
    obtain ⟨B, hB⟩ : ∃ B, B = W.heap.size := ⟨_, rfl⟩
    obtain ⟨z, hz⟩ : ∃ z : Later W, z.w = W.alloc (.cells #[.int .i64 n, .slice am lm cm, .slice ac lc cc] 25) := ⟨Later.new _ _, rfl⟩
    have c0 : z.w.cell? ⟨B, 0, none⟩ = some (.int .i64 n) := by rw [hz, hB]; simp [go_sem]
    have c1 : z.w.cell? ⟨B, 1, none⟩ = some (.slice am lm cm) := by rw [hz, hB]; simp [go_sem]
    have c2 : z.w.cell? ⟨B, 2, none⟩ = some (.slice ac lc cc) := by rw [hz, hB]; simp [go_sem]
    have hBz : B < z.w.heap.size := by rw [hz, hB]; simp [go_sem]
    rw [← hz, ← hB]
    replace hs := hs.later z
    
    clear hz hB
    refine (HCS.out _ hs).mono ?_
    rintro e w' ⟨rfl, x, rfl⟩
    have g0 : x.w.cell? ⟨B, 0, none⟩ = some (.int .i64 n) := ((x).cell hBz).trans c0
    have g1 : x.w.cell? ⟨B, 1, none⟩ = some (.slice am lm cm) := ((x).cell hBz).trans c1
    have g2 : x.w.cell? ⟨B, 2, none⟩ = some (.slice ac lc cc) := ((x).cell hBz).trans c2
    have gB : B < x.w.heap.size := Nat.lt_of_lt_of_le hBz (x).size
    go_wp2
    go_ret
    exact ⟨ret_bool (by simp), z.step x, rfl⟩
  · have hb : (E == 0) = false := by simpa using h0
    have HR := Lib.hid (show (decide (E = 0) && decide (7 < n)) = false by rw [decide_eq_false h0]; rfl)
    clear h0
    go_enter Try.func33, Try.ntmps33
    go_wp2_with fail
    obtain ⟨B, hB⟩ : ∃ B, B = W.heap.size := ⟨_, rfl⟩
    obtain ⟨z, hz⟩ : ∃ z : Later W, z.w = W.alloc (.cells #[.int .i64 n, .slice am lm cm, .slice ac lc cc] 25) := ⟨Later.new _ _, rfl⟩
    have c0 : z.w.cell? ⟨B, 0, none⟩ = some (.int .i64 n) := by rw [hz, hB]; simp [go_sem]
    have c1 : z.w.cell? ⟨B, 1, none⟩ = some (.slice am lm cm) := by rw [hz, hB]; simp [go_sem]
    have c2 : z.w.cell? ⟨B, 2, none⟩ = some (.slice ac lc cc) := by rw [hz, hB]; simp [go_sem]
    have hBz : B < z.w.heap.size := by rw [hz, hB]; simp [go_sem]
    rw [← hz, ← hB]
    replace hs := hs.later z
    
    clear hz hB
    refine (HCS.out _ hs).mono ?_
    rintro e w' ⟨rfl, x, rfl⟩
    go_wp2
    go_ret
    exact ⟨ret_bool HR.out.symm, z.step x, rfl⟩

set_option maxRecDepth 100000 in
set_option maxHeartbeats 1000000 in
theorem fine_calls (n : Int) (mv cv : Value) (ms : List (Int × Int)) (cs : List Int) (W : World) (hs : Sht W mv cv ms cs) :
    Calls Try.prog 40 #[.agg #[.int .i64 n, mv, cv]] W (Gives (.bool (fineB n ms cs)) W) := by
  have hml := hs.m.1
  have hcl := hs.c.1
  obtain ⟨am, lm, cm, rfl⟩ : ∃ a n c, mv = .slice a n c := by obtain ⟨a, c, e⟩ := hs.m.form; exact ⟨a, _, c, e⟩
  obtain ⟨ac, lc, cc, rfl⟩ : ∃ a n c, cv = .slice a n c := by obtain ⟨a, c, e⟩ := hs.c.form; exact ⟨a, _, c, e⟩
  have HLM := Lib.hid (show lm = ms.length by obtain ⟨a, c, e⟩ := hs.m.form; cases e; rfl)
  have HLC := Lib.hid (show lc = cs.length by obtain ⟨a, c, e⟩ := hs.c.form; cases e; rfl)
  rw [← HLM.out] at hml
  rw [← HLC.out] at hcl
  have HCS := Lib.hid (fun (V : World) (hV : Sht V (.slice am lm cm) (.slice ac lc cc) ms cs) => refCheckSheet_calls n _ _ ms cs V hV)
  have HGR := Lib.hid (fun (V : World) (hV : Sht V (.slice am lm cm) (.slice ac lc cc) ms cs) => great_calls n _ _ ms cs V hV)
  have HVG := Lib.hid (@vsheet_great n ms cs)
  rw [fineB]
  obtain ⟨E, hE⟩ : ∃ E, vsheet n ms cs = E := ⟨_, rfl⟩
  rw [hE] at HCS HVG ⊢
  obtain ⟨G, hG⟩ : ∃ G, greatB ms cs = G := ⟨_, rfl⟩
  rw [hG] at HGR HVG
  clear hE hG
  cases G
  rotate_left
  · have HR := Lib.hid (show decide (E = 0) = false from decide_eq_false fun h => by have := HVG.out h; cases this)
    go_enter Try.func40, Try.ntmps40
    go_wp2_with fail
    obtain ⟨B, hB⟩ : ∃ B, B = W.heap.size := ⟨_, rfl⟩
    obtain ⟨z, hz⟩ : ∃ z : Later W, z.w = W.alloc (.cells #[.int .i64 n, .slice am lm cm, .slice ac lc cc] 25) := ⟨Later.new _ _, rfl⟩
    have c0 : z.w.cell? ⟨B, 0, none⟩ = some (.int .i64 n) := by rw [hz, hB]; simp [go_sem]
    have c1 : z.w.cell? ⟨B, 1, none⟩ = some (.slice am lm cm) := by rw [hz, hB]; simp [go_sem]
    have c2 : z.w.cell? ⟨B, 2, none⟩ = some (.slice ac lc cc) := by rw [hz, hB]; simp [go_sem]
    have hBz : B < z.w.heap.size := by rw [hz, hB]; simp [go_sem]
    rw [← hz, ← hB]
    replace hs := hs.later z
    
    clear hz hB
    refine (HGR.out _ hs).mono ?_
    rintro e w' ⟨rfl, x, rfl⟩
    go_wp2
    go_ret
    exact ⟨ret_bool HR.out.symm, z.step x, rfl⟩
  · go_enter Try.func40, Try.ntmps40
    go_wp2_with fail
    obtain ⟨B, hB⟩ : ∃ B, B = W.heap.size := ⟨_, rfl⟩
    obtain ⟨z, hz⟩ : ∃ z : Later W, z.w = W.alloc (.cells #[.int .i64 n, .slice am lm cm, .slice ac lc cc] 25) := ⟨Later.new _ _, rfl⟩
    have c0 : z.w.cell? ⟨B, 0, none⟩ = some (.int .i64 n) := by rw [hz, hB]; simp [go_sem]
    have c1 : z.w.cell? ⟨B, 1, none⟩ = some (.slice am lm cm) := by rw [hz, hB]; simp [go_sem]
    have c2 : z.w.cell? ⟨B, 2, none⟩ = some (.slice ac lc cc) := by rw [hz, hB]; simp [go_sem]
    have hBz : B < z.w.heap.size := by rw [hz, hB]; simp [go_sem]
    rw [← hz, ← hB]
    replace hs := hs.later z
    
    clear hz hB
    refine (HGR.out _ hs).mono ?_
    rintro e w' ⟨rfl, x, rfl⟩
    have g0 : x.w.cell? ⟨B, 0, none⟩ = some (.int .i64 n) := ((x).cell hBz).trans c0
    have g1 : x.w.cell? ⟨B, 1, none⟩ = some (.slice am lm cm) := ((x).cell hBz).trans c1
    have g2 : x.w.cell? ⟨B, 2, none⟩ = some (.slice ac lc cc) := ((x).cell hBz).trans c2
    have gB : B < x.w.heap.size := Nat.lt_of_lt_of_le hBz (x).size
    go_wp2_with fail
    refine (HCS.out _ (hs.later x)).mono ?_
    rintro e w' ⟨rfl, y, rfl⟩
    by_cases h0 : E = 0
    · subst h0
      go_wp2
      go_ret
      exact ⟨rfl, (z.step x).step y, rfl⟩
    · have hb : (E == 0) = false := by simpa using h0
      have HR := Lib.hid (show decide (E = 0) = false from decide_eq_false h0)
      clear h0
      go_wp2
      go_ret
      exact ⟨ret_bool HR.out.symm, (z.step x).step y, rfl⟩

end Go.Proofs.Ytdhdpbnlhnodjaa
