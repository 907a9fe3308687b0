import Derived.Test.YtbjmfhlkmklmmaaKOwn
import Derived.Test.YtbjmfhlkmklmmaaKSand
import Derived.IntWalk
import Derived.Deep.LoopGhost
import Derived.Deep.OwnRows
import Derived.Test.YtbjmfhlkmklmmaaKMix
namespace Go.Proofs.Ytbjmfhlkmklmmaa
open Go.RowKit

theorem nth_ofL (d : List Int) (j : Nat) : nth d j = ofL d j := rfl
def sizeB (w h m : Int) : Bool := decide (1 ≤ w) && decide (w ≤ m) && decide (1 ≤ h) && decide (h ≤ m)
set_option maxHeartbeats 400000 in
theorem IsSize_calls (w h m : Int) (W : World) :
    Calls Try.prog 56 #[.int .i64 w, .int .i64 h, .int .i64 m] W fun e W' => e = .returned (.bool (sizeB w h m)) ∧ W' = W := by
  go_enter Try.func56, Try.ntmps56
  go_wp2
  all_goals (go_ret; refine ⟨ret_bool ?_, rfl⟩; simp [sizeB, *])
  all_goals omega

/-- which plates are valid -/
def vplate (w h : Int) (d : List Int) : Int := if sizeB w h 6 = false then 3 else if (d.length : Int) ≠ w * h then 15 else if d.any (outB 0 30) then 2 else 0
theorem vplate_zero {w h : Int} {d : List Int} (hv : vplate w h d = 0) : ∃ wn hn : Nat, w = wn ∧ h = hn ∧ sized wn hn ∧ d.length = wn * hn ∧ ∀ j, j < d.length → 0 ≤ nth d j ∧ nth d j ≤ 30 := by
  unfold vplate at hv
  split at hv
  · cases hv
  rename_i h1
  split at hv
  · cases hv
  rename_i h2
  split at hv
  · cases hv
  rename_i h3
  simp only [Bool.not_eq_false, sizeB, Bool.and_eq_true, decide_eq_true_iff] at h1
  simp only [ne_eq, Classical.not_not] at h2
  refine ⟨w.toNat, h.toNat, by omega, by omega, ⟨by omega, by omega, by omega, by omega⟩, ?_, fun j hj => ?_⟩
  · have e1 : w = (w.toNat : Int) := by omega
    have e2 : h = (h.toNat : Int) := by omega
    rw [e1, e2] at h2
    exact_mod_cast h2
  · rw [List.any_eq_true] at h3
    have : ¬ outB 0 30 (nth d j) = true := fun e => h3 ⟨nth d j, by rw [nth_eq hj]; exact List.getElem_mem hj, e⟩
    simp [outB] at this
    omega
theorem mul_wrap {w h : Int} (hs : sizeB w h 6 = true) : IntKind.i64.wrap (w * h) = w * h := by
  simp only [sizeB, Bool.and_eq_true, decide_eq_true_iff] at hs
  have h1 : 0 ≤ w * h := Int.mul_nonneg (by omega) (by omega)
  have h2 : w * h ≤ 6 * h := Int.mul_le_mul_of_nonneg_right hs.1.1.2 (by omega)
  exact IntWalk.i64_in _ (by omega)
theorem any_at (p : Int → Bool) (xs : List Int) (k : Nat) (h : k < xs.length) : (xs.drop k).any p = (p (nth xs k) || (xs.drop (k + 1)).any p) := by
  rw [List.drop_eq_getElem_cons h, List.any_cons, nth_eq h]
theorem any_end (p : Int → Bool) (xs : List Int) (k : Nat) (h : xs.length ≤ k) : (xs.drop k).any p = false := by
  rw [List.drop_eq_nil_of_le h]; rfl
set_option maxRecDepth 100000 in
set_option maxHeartbeats 1000000 in
theorem refCheckPlate_calls (w h : Int) (dv : Value) (d : List Int) (W : World) (hd : Ints W dv d) :
    Calls Try.prog 23 #[.agg #[.int .i64 w, .int .i64 h, dv]] W (Gives (.int .i64 (vplate w h d)) W) := by
  have hdl := hd.1
  obtain ⟨a, c, rfl⟩ := hd.form
  go_enter Try.func23, Try.ntmps23
  go_wp2_with fail
  obtain ⟨B, hB⟩ : ∃ B, B = W.heap.size := ⟨_, rfl⟩
  obtain ⟨z, hz⟩ : ∃ z : Later W, z.w = W.alloc (.cells #[.int .i64 w, .int .i64 h, .slice a d.length c] 24) := ⟨Later.new _ _, rfl⟩
  have c0 : z.w.cell? ⟨B, 0, none⟩ = some (.int .i64 w) := by rw [hz, hB]; simp [go_sem]
  have c1 : z.w.cell? ⟨B, 1, none⟩ = some (.int .i64 h) := by rw [hz, hB]; simp [go_sem]
  have c2 : z.w.cell? ⟨B, 2, none⟩ = some (.slice a d.length c) := by rw [hz, hB]; simp [go_sem]
  have hBz : B < z.w.heap.size := by rw [hz, hB]; simp [go_sem]
  have HZ : Hid (z.w.heap.size = B + 1) := Lib.hid (by rw [hz, hB]; simp)
  rw [← hz, ← hB]
  replace hd := hd.later z
  clear hz hB
  refine (IsSize_calls _ _ _ _).mono ?_
  rintro e w' ⟨rfl, rfl⟩
  cases hs : sizeB w h 6
  · have hr := Lib.hid (show vplate w h d = 3 by rw [vplate, if_pos hs])
    go_wp2
    go_ret
    exact ⟨ret_int hr.out.symm, z, rfl⟩
  · have hm := mul_wrap hs
    by_cases hl : (d.length : Int) = w * h
    rotate_left
    · have hr := Lib.hid (show vplate w h d = 15 by rw [vplate, if_neg (by rw [hs]; simp), if_pos hl])
      go_wp2
      go_ret
      exact ⟨ret_int hr.out.symm, z, rfl⟩
    · have hr := Lib.hid (show vplate w h d = if d.any (outB 0 30) then 2 else 0 by rw [vplate, if_neg (by rw [hs]; simp), if_neg (by simpa using hl)])
      go_wp2
      go_loop [3] (fun i => ∃ k : Nat, k ≤ d.length ∧ i = .int .i64 k ∧ Hid (d.any (outB 0 30) = (d.drop k).any (outB 0 30))) (fun i => d.length - (intOf i).toNat)
      case atStart => exact ⟨0, Nat.zero_le _, rfl, rfl⟩
      case round =>
        obtain ⟨k, hk, rfl, hp⟩ := hrel
        by_cases hlt : k < d.length
        · obtain ⟨bd, od, cd, e, hcd, hbd, hgd⟩ := hd.at hlt
          cases e
          have gd := hgd k hlt
          have ha := any_at (outB 0 30) d k hlt
          clear hgd
          by_cases h1 : nth d k < 0
          · have hr2 := Lib.hid (show vplate w h d = 2 by rw [hr.out, hp.out, ha, outB, decide_eq_true h1]; rfl)
            clear ha
            go_wp2
            go_ret
            exact ⟨ret_int hr2.out.symm, z, rfl⟩
          · by_cases h2 : 30 < nth d k
            · have hr2 := Lib.hid (show vplate w h d = 2 by rw [hr.out, hp.out, ha, outB, decide_eq_true h2, Bool.or_true]; rfl)
              clear ha
              go_wp2
              go_ret
              exact ⟨ret_int hr2.out.symm, z, rfl⟩
            · have hp2 := Lib.hid (show d.any (outB 0 30) = (d.drop (k + 1)).any (outB 0 30) by rw [hp.out, ha, outB, decide_eq_false h1, decide_eq_false h2]; rfl)
              clear ha
              go_wp2
              go_round
              case rel => exact ⟨k + 1, by omega, by go_num, hp2⟩
              case measure => simp [intOf]; omega
        · have hr2 := Lib.hid (show vplate w h d = 0 by rw [hr.out, hp.out, any_end _ _ _ (by omega)]; rfl)
          go_wp2
          go_ret
          exact ⟨ret_int hr2.out.symm, z, rfl⟩
end Go.Proofs.Ytbjmfhlkmklmmaa

namespace Go.Proofs.Ytbjmfhlkmklmmaa
open Go.RowKit

/-- it returns a new list -/
def GivesM (L : List Int) (w : World) (e : Ending) (w' : World) : Prop := ∃ v, ∃ x : Later w, e = .returned v ∧ w' = x.w ∧ IntsM w.heap.size x.w v L
def GivesN (L : List Int) (w : World) (e : Ending) (w' : World) : Prop := ∃ v, ∃ x : Later w, e = .returned v ∧ w' = x.w ∧ IntsN w.heap.size x.w v L
def nbI (w h i : Nat) : List Int := (nb w h i).map fun (j : Nat) => (j : Int)
set_option maxRecDepth 100000 in
set_option maxHeartbeats 1000000 in
theorem Beside_calls (w h i : Nat) (hs : sized w h) (hi : i < w * h) (W : World) :
    Calls Try.prog 46 #[.int .i64 w, .int .i64 h, .int .i64 i] W (GivesM (nbI w h i) W) := by
  have hw0 : (w : Int) ≠ 0 := by have := hs.1; omega
  have hw1 : 1 ≤ w := hs.1
  have hw6 : w ≤ 6 := hs.2.1
  have hi36 : i < 36 := by have := Nat.mul_le_mul hs.2.1 hs.2.2.2; omega
  go_enter Try.func46, Try.ntmps46
  go_wp2
  refine region_later_lit (by kernel_rfl) (by kernel_rfl) ?_
  repeat (first | go_big_quiet_step (first
       | (fail)))
  refine wpQuiet_nil ?_
  intro y
  obtain ⟨X, hX⟩ : ∃ X : Nat, i % w = X := ⟨_, rfl⟩
  obtain ⟨Y, hY⟩ : ∃ Y : Nat, i / w = Y := ⟨_, rfl⟩
  have hnb := Lib.hid (show nbI w h i = (if 0 < Y then [(i : Int) - w] else []) ++ ((if 0 < X then [(i : Int) - 1] else []) ++ ((if X + 1 < w then [(i : Int) + 1] else []) ++ (if Y + 1 < h then [(i : Int) + w] else []))) by
    have hXi : X ≤ i := by rw [← hX]; exact Nat.mod_le _ _
    have hYi : 0 < Y → w ≤ i := fun h0 => by rw [← hY] at h0; exact (Nat.div_pos_iff.1 h0).2
    rw [nbI, nb, hX, hY, List.map_append, List.map_append, List.map_append]
    congr 1
    · split
      · rename_i h0; have := hYi h0; simp; omega
      · rfl
    congr 1
    · split
      · simp; omega
      · rfl
    congr 1
    · split <;> simp
    · split <;> simp)
  have eX : (i : Int) % (w : Int) = (X : Int) := by rw [← hX]; exact (Int.natCast_emod i w).symm
  have eY : (i : Int) / (w : Int) = (Y : Int) := by rw [← hY]; exact (Int.natCast_ediv i w).symm
  have hYl : Y ≤ i := by rw [← hY]; exact Nat.div_le_self _ _
  have hXl : X < w := by rw [← hX]; exact Nat.mod_lt _ hw1
  have eW : wrap64 ((Y : Int)) = (Y : Int) := IntWalk.wrap64_in _ (by omega)
  rw [eX, eY, eW]
  have e1 : IntKind.i64.wrap ((i : Int) - w) = (i : Int) - w := IntWalk.i64_in _ (by omega)
  have e2 : IntKind.i64.wrap ((i : Int) - 1) = (i : Int) - 1 := IntWalk.i64_in _ (by omega)
  have e3 : IntKind.i64.wrap ((i : Int) + 1) = (i : Int) + 1 := IntWalk.i64_in _ (by omega)
  have e4 : IntKind.i64.wrap ((i : Int) + w) = (i : Int) + w := IntWalk.i64_in _ (by omega)
  have e5 : IntKind.i64.wrap ((X : Int) + 1) = (X : Int) + 1 := IntWalk.i64_in _ (by omega)
  have e6 : IntKind.i64.wrap ((Y : Int) + 1) = (Y : Int) + 1 := IntWalk.i64_in _ (by omega)
  clear eX eY eW hX hY
  by_cases h0 : 0 < Y
  · by_cases h1 : 0 < X
    · by_cases h2 : X + 1 < w
      · by_cases h3 : Y + 1 < h
        · obtain ⟨v0, q0, hr0, hN0, _⟩ := app_int_stepM y.le (IntsM.nil W.heap.size y.w) ((i : Int) - w) (by simp) 38
          obtain ⟨a0, n0, c0, rfl⟩ := hN0.form'
          have HR0 := Lib.hid hr0
          clear hr0
          obtain ⟨v1, q1, hr1, hN1, _⟩ := app_int_stepM q0.le hN0 ((i : Int) - 1) (by simp) 38
          obtain ⟨a1, n1, c1, rfl⟩ := hN1.form'
          have HR1 := Lib.hid hr1
          clear hr1
          obtain ⟨v2, q2, hr2, hN2, _⟩ := app_int_stepM q1.le hN1 ((i : Int) + 1) (by simp) 38
          obtain ⟨a2, n2, c2, rfl⟩ := hN2.form'
          have HR2 := Lib.hid hr2
          clear hr2
          obtain ⟨v3, q3, hr3, hN3, _⟩ := app_int_stepM q2.le hN2 ((i : Int) + w) (by simp) 38
          obtain ⟨a3, n3, c3, rfl⟩ := hN3.form'
          have HR3 := Lib.hid hr3
          clear hr3
          have hfin : IntsM W.heap.size q3.w (Value.slice a3 n3 c3) (nbI w h i) := by
            have h9 := hN3
            rw [hnb.out, if_pos h0, if_pos h1, if_pos h2, if_pos h3]
            simpa using h9
          go_wp2_with (first | ((with_reducible show wpList _ _ _ (⟨some 23, _, _, _, _, _⟩ :: _) _ _); refine Lib.wpList_append_run_sl _ rfl _ _ 38 rfl _ _ rfl rfl HR0.out ?_) | ((with_reducible show wpList _ _ _ (⟨some 30, _, _, _, _, _⟩ :: _) _ _); refine Lib.wpList_append_run_sl _ rfl _ _ 38 rfl _ _ rfl rfl HR1.out ?_) | ((with_reducible show wpList _ _ _ (⟨some 39, _, _, _, _, _⟩ :: _) _ _); refine Lib.wpList_append_run_sl _ rfl _ _ 38 rfl _ _ rfl rfl HR2.out ?_) | ((with_reducible show wpList _ _ _ (⟨some 49, _, _, _, _, _⟩ :: _) _ _); refine Lib.wpList_append_run_sl _ rfl _ _ 38 rfl _ _ rfl rfl HR3.out ?_))
          go_ret
          exact ⟨_, q3, rfl, rfl, hfin⟩
        · obtain ⟨v0, q0, hr0, hN0, _⟩ := app_int_stepM y.le (IntsM.nil W.heap.size y.w) ((i : Int) - w) (by simp) 38
          obtain ⟨a0, n0, c0, rfl⟩ := hN0.form'
          have HR0 := Lib.hid hr0
          clear hr0
          obtain ⟨v1, q1, hr1, hN1, _⟩ := app_int_stepM q0.le hN0 ((i : Int) - 1) (by simp) 38
          obtain ⟨a1, n1, c1, rfl⟩ := hN1.form'
          have HR1 := Lib.hid hr1
          clear hr1
          obtain ⟨v2, q2, hr2, hN2, _⟩ := app_int_stepM q1.le hN1 ((i : Int) + 1) (by simp) 38
          obtain ⟨a2, n2, c2, rfl⟩ := hN2.form'
          have HR2 := Lib.hid hr2
          clear hr2
          have hfin : IntsM W.heap.size q2.w (Value.slice a2 n2 c2) (nbI w h i) := by
            have h9 := hN2
            rw [hnb.out, if_pos h0, if_pos h1, if_pos h2, if_neg h3]
            simpa using h9
          go_wp2_with (first | ((with_reducible show wpList _ _ _ (⟨some 23, _, _, _, _, _⟩ :: _) _ _); refine Lib.wpList_append_run_sl _ rfl _ _ 38 rfl _ _ rfl rfl HR0.out ?_) | ((with_reducible show wpList _ _ _ (⟨some 30, _, _, _, _, _⟩ :: _) _ _); refine Lib.wpList_append_run_sl _ rfl _ _ 38 rfl _ _ rfl rfl HR1.out ?_) | ((with_reducible show wpList _ _ _ (⟨some 39, _, _, _, _, _⟩ :: _) _ _); refine Lib.wpList_append_run_sl _ rfl _ _ 38 rfl _ _ rfl rfl HR2.out ?_))
          go_ret
          exact ⟨_, q2, rfl, rfl, hfin⟩
      · by_cases h3 : Y + 1 < h
        · obtain ⟨v0, q0, hr0, hN0, _⟩ := app_int_stepM y.le (IntsM.nil W.heap.size y.w) ((i : Int) - w) (by simp) 38
          obtain ⟨a0, n0, c0, rfl⟩ := hN0.form'
          have HR0 := Lib.hid hr0
          clear hr0
          obtain ⟨v1, q1, hr1, hN1, _⟩ := app_int_stepM q0.le hN0 ((i : Int) - 1) (by simp) 38
          obtain ⟨a1, n1, c1, rfl⟩ := hN1.form'
          have HR1 := Lib.hid hr1
          clear hr1
          obtain ⟨v3, q3, hr3, hN3, _⟩ := app_int_stepM q1.le hN1 ((i : Int) + w) (by simp) 38
          obtain ⟨a3, n3, c3, rfl⟩ := hN3.form'
          have HR3 := Lib.hid hr3
          clear hr3
          have hfin : IntsM W.heap.size q3.w (Value.slice a3 n3 c3) (nbI w h i) := by
            have h9 := hN3
            rw [hnb.out, if_pos h0, if_pos h1, if_neg h2, if_pos h3]
            simpa using h9
          go_wp2_with (first | ((with_reducible show wpList _ _ _ (⟨some 23, _, _, _, _, _⟩ :: _) _ _); refine Lib.wpList_append_run_sl _ rfl _ _ 38 rfl _ _ rfl rfl HR0.out ?_) | ((with_reducible show wpList _ _ _ (⟨some 30, _, _, _, _, _⟩ :: _) _ _); refine Lib.wpList_append_run_sl _ rfl _ _ 38 rfl _ _ rfl rfl HR1.out ?_) | ((with_reducible show wpList _ _ _ (⟨some 49, _, _, _, _, _⟩ :: _) _ _); refine Lib.wpList_append_run_sl _ rfl _ _ 38 rfl _ _ rfl rfl HR3.out ?_))
          go_ret
          exact ⟨_, q3, rfl, rfl, hfin⟩
        · obtain ⟨v0, q0, hr0, hN0, _⟩ := app_int_stepM y.le (IntsM.nil W.heap.size y.w) ((i : Int) - w) (by simp) 38
          obtain ⟨a0, n0, c0, rfl⟩ := hN0.form'
          have HR0 := Lib.hid hr0
          clear hr0
          obtain ⟨v1, q1, hr1, hN1, _⟩ := app_int_stepM q0.le hN0 ((i : Int) - 1) (by simp) 38
          obtain ⟨a1, n1, c1, rfl⟩ := hN1.form'
          have HR1 := Lib.hid hr1
          clear hr1
          have hfin : IntsM W.heap.size q1.w (Value.slice a1 n1 c1) (nbI w h i) := by
            have h9 := hN1
            rw [hnb.out, if_pos h0, if_pos h1, if_neg h2, if_neg h3]
            simpa using h9
          go_wp2_with (first | ((with_reducible show wpList _ _ _ (⟨some 23, _, _, _, _, _⟩ :: _) _ _); refine Lib.wpList_append_run_sl _ rfl _ _ 38 rfl _ _ rfl rfl HR0.out ?_) | ((with_reducible show wpList _ _ _ (⟨some 30, _, _, _, _, _⟩ :: _) _ _); refine Lib.wpList_append_run_sl _ rfl _ _ 38 rfl _ _ rfl rfl HR1.out ?_))
          go_ret
          exact ⟨_, q1, rfl, rfl, hfin⟩
    · by_cases h2 : X + 1 < w
      · by_cases h3 : Y + 1 < h
        · obtain ⟨v0, q0, hr0, hN0, _⟩ := app_int_stepM y.le (IntsM.nil W.heap.size y.w) ((i : Int) - w) (by simp) 38
          obtain ⟨a0, n0, c0, rfl⟩ := hN0.form'
          have HR0 := Lib.hid hr0
          clear hr0
          obtain ⟨v2, q2, hr2, hN2, _⟩ := app_int_stepM q0.le hN0 ((i : Int) + 1) (by simp) 38
          obtain ⟨a2, n2, c2, rfl⟩ := hN2.form'
          have HR2 := Lib.hid hr2
          clear hr2
          obtain ⟨v3, q3, hr3, hN3, _⟩ := app_int_stepM q2.le hN2 ((i : Int) + w) (by simp) 38
          obtain ⟨a3, n3, c3, rfl⟩ := hN3.form'
          have HR3 := Lib.hid hr3
          clear hr3
          have hfin : IntsM W.heap.size q3.w (Value.slice a3 n3 c3) (nbI w h i) := by
            have h9 := hN3
            rw [hnb.out, if_pos h0, if_neg h1, if_pos h2, if_pos h3]
            simpa using h9
          go_wp2_with (first | ((with_reducible show wpList _ _ _ (⟨some 23, _, _, _, _, _⟩ :: _) _ _); refine Lib.wpList_append_run_sl _ rfl _ _ 38 rfl _ _ rfl rfl HR0.out ?_) | ((with_reducible show wpList _ _ _ (⟨some 39, _, _, _, _, _⟩ :: _) _ _); refine Lib.wpList_append_run_sl _ rfl _ _ 38 rfl _ _ rfl rfl HR2.out ?_) | ((with_reducible show wpList _ _ _ (⟨some 49, _, _, _, _, _⟩ :: _) _ _); refine Lib.wpList_append_run_sl _ rfl _ _ 38 rfl _ _ rfl rfl HR3.out ?_))
          go_ret
          exact ⟨_, q3, rfl, rfl, hfin⟩
        · obtain ⟨v0, q0, hr0, hN0, _⟩ := app_int_stepM y.le (IntsM.nil W.heap.size y.w) ((i : Int) - w) (by simp) 38
          obtain ⟨a0, n0, c0, rfl⟩ := hN0.form'
          have HR0 := Lib.hid hr0
          clear hr0
          obtain ⟨v2, q2, hr2, hN2, _⟩ := app_int_stepM q0.le hN0 ((i : Int) + 1) (by simp) 38
          obtain ⟨a2, n2, c2, rfl⟩ := hN2.form'
          have HR2 := Lib.hid hr2
          clear hr2
          have hfin : IntsM W.heap.size q2.w (Value.slice a2 n2 c2) (nbI w h i) := by
            have h9 := hN2
            rw [hnb.out, if_pos h0, if_neg h1, if_pos h2, if_neg h3]
            simpa using h9
          go_wp2_with (first | ((with_reducible show wpList _ _ _ (⟨some 23, _, _, _, _, _⟩ :: _) _ _); refine Lib.wpList_append_run_sl _ rfl _ _ 38 rfl _ _ rfl rfl HR0.out ?_) | ((with_reducible show wpList _ _ _ (⟨some 39, _, _, _, _, _⟩ :: _) _ _); refine Lib.wpList_append_run_sl _ rfl _ _ 38 rfl _ _ rfl rfl HR2.out ?_))
          go_ret
          exact ⟨_, q2, rfl, rfl, hfin⟩
      · by_cases h3 : Y + 1 < h
        · obtain ⟨v0, q0, hr0, hN0, _⟩ := app_int_stepM y.le (IntsM.nil W.heap.size y.w) ((i : Int) - w) (by simp) 38
          obtain ⟨a0, n0, c0, rfl⟩ := hN0.form'
          have HR0 := Lib.hid hr0
          clear hr0
          obtain ⟨v3, q3, hr3, hN3, _⟩ := app_int_stepM q0.le hN0 ((i : Int) + w) (by simp) 38
          obtain ⟨a3, n3, c3, rfl⟩ := hN3.form'
          have HR3 := Lib.hid hr3
          clear hr3
          have hfin : IntsM W.heap.size q3.w (Value.slice a3 n3 c3) (nbI w h i) := by
            have h9 := hN3
            rw [hnb.out, if_pos h0, if_neg h1, if_neg h2, if_pos h3]
            simpa using h9
          go_wp2_with (first | ((with_reducible show wpList _ _ _ (⟨some 23, _, _, _, _, _⟩ :: _) _ _); refine Lib.wpList_append_run_sl _ rfl _ _ 38 rfl _ _ rfl rfl HR0.out ?_) | ((with_reducible show wpList _ _ _ (⟨some 49, _, _, _, _, _⟩ :: _) _ _); refine Lib.wpList_append_run_sl _ rfl _ _ 38 rfl _ _ rfl rfl HR3.out ?_))
          go_ret
          exact ⟨_, q3, rfl, rfl, hfin⟩
        · obtain ⟨v0, q0, hr0, hN0, _⟩ := app_int_stepM y.le (IntsM.nil W.heap.size y.w) ((i : Int) - w) (by simp) 38
          obtain ⟨a0, n0, c0, rfl⟩ := hN0.form'
          have HR0 := Lib.hid hr0
          clear hr0
          have hfin : IntsM W.heap.size q0.w (Value.slice a0 n0 c0) (nbI w h i) := by
            have h9 := hN0
            rw [hnb.out, if_pos h0, if_neg h1, if_neg h2, if_neg h3]
            simpa using h9
          go_wp2_with (first | ((with_reducible show wpList _ _ _ (⟨some 23, _, _, _, _, _⟩ :: _) _ _); refine Lib.wpList_append_run_sl _ rfl _ _ 38 rfl _ _ rfl rfl HR0.out ?_))
          go_ret
          exact ⟨_, q0, rfl, rfl, hfin⟩
  · by_cases h1 : 0 < X
    · by_cases h2 : X + 1 < w
      · by_cases h3 : Y + 1 < h
        · obtain ⟨v1, q1, hr1, hN1, _⟩ := app_int_stepM y.le (IntsM.nil W.heap.size y.w) ((i : Int) - 1) (by simp) 38
          obtain ⟨a1, n1, c1, rfl⟩ := hN1.form'
          have HR1 := Lib.hid hr1
          clear hr1
          obtain ⟨v2, q2, hr2, hN2, _⟩ := app_int_stepM q1.le hN1 ((i : Int) + 1) (by simp) 38
          obtain ⟨a2, n2, c2, rfl⟩ := hN2.form'
          have HR2 := Lib.hid hr2
          clear hr2
          obtain ⟨v3, q3, hr3, hN3, _⟩ := app_int_stepM q2.le hN2 ((i : Int) + w) (by simp) 38
          obtain ⟨a3, n3, c3, rfl⟩ := hN3.form'
          have HR3 := Lib.hid hr3
          clear hr3
          have hfin : IntsM W.heap.size q3.w (Value.slice a3 n3 c3) (nbI w h i) := by
            have h9 := hN3
            rw [hnb.out, if_neg h0, if_pos h1, if_pos h2, if_pos h3]
            simpa using h9
          go_wp2_with (first | ((with_reducible show wpList _ _ _ (⟨some 30, _, _, _, _, _⟩ :: _) _ _); refine Lib.wpList_append_run_sl _ rfl _ _ 38 rfl _ _ rfl rfl HR1.out ?_) | ((with_reducible show wpList _ _ _ (⟨some 39, _, _, _, _, _⟩ :: _) _ _); refine Lib.wpList_append_run_sl _ rfl _ _ 38 rfl _ _ rfl rfl HR2.out ?_) | ((with_reducible show wpList _ _ _ (⟨some 49, _, _, _, _, _⟩ :: _) _ _); refine Lib.wpList_append_run_sl _ rfl _ _ 38 rfl _ _ rfl rfl HR3.out ?_))
          go_ret
          exact ⟨_, q3, rfl, rfl, hfin⟩
        · obtain ⟨v1, q1, hr1, hN1, _⟩ := app_int_stepM y.le (IntsM.nil W.heap.size y.w) ((i : Int) - 1) (by simp) 38
          obtain ⟨a1, n1, c1, rfl⟩ := hN1.form'
          have HR1 := Lib.hid hr1
          clear hr1
          obtain ⟨v2, q2, hr2, hN2, _⟩ := app_int_stepM q1.le hN1 ((i : Int) + 1) (by simp) 38
          obtain ⟨a2, n2, c2, rfl⟩ := hN2.form'
          have HR2 := Lib.hid hr2
          clear hr2
          have hfin : IntsM W.heap.size q2.w (Value.slice a2 n2 c2) (nbI w h i) := by
            have h9 := hN2
            rw [hnb.out, if_neg h0, if_pos h1, if_pos h2, if_neg h3]
            simpa using h9
          go_wp2_with (first | ((with_reducible show wpList _ _ _ (⟨some 30, _, _, _, _, _⟩ :: _) _ _); refine Lib.wpList_append_run_sl _ rfl _ _ 38 rfl _ _ rfl rfl HR1.out ?_) | ((with_reducible show wpList _ _ _ (⟨some 39, _, _, _, _, _⟩ :: _) _ _); refine Lib.wpList_append_run_sl _ rfl _ _ 38 rfl _ _ rfl rfl HR2.out ?_))
          go_ret
          exact ⟨_, q2, rfl, rfl, hfin⟩
      · by_cases h3 : Y + 1 < h
        · obtain ⟨v1, q1, hr1, hN1, _⟩ := app_int_stepM y.le (IntsM.nil W.heap.size y.w) ((i : Int) - 1) (by simp) 38
          obtain ⟨a1, n1, c1, rfl⟩ := hN1.form'
          have HR1 := Lib.hid hr1
          clear hr1
          obtain ⟨v3, q3, hr3, hN3, _⟩ := app_int_stepM q1.le hN1 ((i : Int) + w) (by simp) 38
          obtain ⟨a3, n3, c3, rfl⟩ := hN3.form'
          have HR3 := Lib.hid hr3
          clear hr3
          have hfin : IntsM W.heap.size q3.w (Value.slice a3 n3 c3) (nbI w h i) := by
            have h9 := hN3
            rw [hnb.out, if_neg h0, if_pos h1, if_neg h2, if_pos h3]
            simpa using h9
          go_wp2_with (first | ((with_reducible show wpList _ _ _ (⟨some 30, _, _, _, _, _⟩ :: _) _ _); refine Lib.wpList_append_run_sl _ rfl _ _ 38 rfl _ _ rfl rfl HR1.out ?_) | ((with_reducible show wpList _ _ _ (⟨some 49, _, _, _, _, _⟩ :: _) _ _); refine Lib.wpList_append_run_sl _ rfl _ _ 38 rfl _ _ rfl rfl HR3.out ?_))
          go_ret
          exact ⟨_, q3, rfl, rfl, hfin⟩
        · obtain ⟨v1, q1, hr1, hN1, _⟩ := app_int_stepM y.le (IntsM.nil W.heap.size y.w) ((i : Int) - 1) (by simp) 38
          obtain ⟨a1, n1, c1, rfl⟩ := hN1.form'
          have HR1 := Lib.hid hr1
          clear hr1
          have hfin : IntsM W.heap.size q1.w (Value.slice a1 n1 c1) (nbI w h i) := by
            have h9 := hN1
            rw [hnb.out, if_neg h0, if_pos h1, if_neg h2, if_neg h3]
            simpa using h9
          go_wp2_with (first | ((with_reducible show wpList _ _ _ (⟨some 30, _, _, _, _, _⟩ :: _) _ _); refine Lib.wpList_append_run_sl _ rfl _ _ 38 rfl _ _ rfl rfl HR1.out ?_))
          go_ret
          exact ⟨_, q1, rfl, rfl, hfin⟩
    · by_cases h2 : X + 1 < w
      · by_cases h3 : Y + 1 < h
        · obtain ⟨v2, q2, hr2, hN2, _⟩ := app_int_stepM y.le (IntsM.nil W.heap.size y.w) ((i : Int) + 1) (by simp) 38
          obtain ⟨a2, n2, c2, rfl⟩ := hN2.form'
          have HR2 := Lib.hid hr2
          clear hr2
          obtain ⟨v3, q3, hr3, hN3, _⟩ := app_int_stepM q2.le hN2 ((i : Int) + w) (by simp) 38
          obtain ⟨a3, n3, c3, rfl⟩ := hN3.form'
          have HR3 := Lib.hid hr3
          clear hr3
          have hfin : IntsM W.heap.size q3.w (Value.slice a3 n3 c3) (nbI w h i) := by
            have h9 := hN3
            rw [hnb.out, if_neg h0, if_neg h1, if_pos h2, if_pos h3]
            simpa using h9
          go_wp2_with (first | ((with_reducible show wpList _ _ _ (⟨some 39, _, _, _, _, _⟩ :: _) _ _); refine Lib.wpList_append_run_sl _ rfl _ _ 38 rfl _ _ rfl rfl HR2.out ?_) | ((with_reducible show wpList _ _ _ (⟨some 49, _, _, _, _, _⟩ :: _) _ _); refine Lib.wpList_append_run_sl _ rfl _ _ 38 rfl _ _ rfl rfl HR3.out ?_))
          go_ret
          exact ⟨_, q3, rfl, rfl, hfin⟩
        · obtain ⟨v2, q2, hr2, hN2, _⟩ := app_int_stepM y.le (IntsM.nil W.heap.size y.w) ((i : Int) + 1) (by simp) 38
          obtain ⟨a2, n2, c2, rfl⟩ := hN2.form'
          have HR2 := Lib.hid hr2
          clear hr2
          have hfin : IntsM W.heap.size q2.w (Value.slice a2 n2 c2) (nbI w h i) := by
            have h9 := hN2
            rw [hnb.out, if_neg h0, if_neg h1, if_pos h2, if_neg h3]
            simpa using h9
          go_wp2_with (first | ((with_reducible show wpList _ _ _ (⟨some 39, _, _, _, _, _⟩ :: _) _ _); refine Lib.wpList_append_run_sl _ rfl _ _ 38 rfl _ _ rfl rfl HR2.out ?_))
          go_ret
          exact ⟨_, q2, rfl, rfl, hfin⟩
      · by_cases h3 : Y + 1 < h
        · obtain ⟨v3, q3, hr3, hN3, _⟩ := app_int_stepM y.le (IntsM.nil W.heap.size y.w) ((i : Int) + w) (by simp) 38
          obtain ⟨a3, n3, c3, rfl⟩ := hN3.form'
          have HR3 := Lib.hid hr3
          clear hr3
          have hfin : IntsM W.heap.size q3.w (Value.slice a3 n3 c3) (nbI w h i) := by
            have h9 := hN3
            rw [hnb.out, if_neg h0, if_neg h1, if_neg h2, if_pos h3]
            simpa using h9
          go_wp2_with (first | ((with_reducible show wpList _ _ _ (⟨some 49, _, _, _, _, _⟩ :: _) _ _); refine Lib.wpList_append_run_sl _ rfl _ _ 38 rfl _ _ rfl rfl HR3.out ?_))
          go_ret
          exact ⟨_, q3, rfl, rfl, hfin⟩
        · have hfin : IntsM W.heap.size y.w (Value.slice none 0 0) (nbI w h i) := by
            have h9 := (IntsM.nil W.heap.size y.w)
            rw [hnb.out, if_neg h0, if_neg h1, if_neg h2, if_neg h3]
            simpa using h9
          go_wp2_with (first | fail)
          go_ret
          exact ⟨_, y, rfl, rfl, hfin⟩
end Go.Proofs.Ytbjmfhlkmklmmaa

namespace Go.Proofs.Ytbjmfhlkmklmmaa
open Go.RowKit

/-- numbers that stay far from where int64 ends -/
def tame (d : List Int) (B : Int) : Prop := ∀ j, j < d.length → -B ≤ ofL d j ∧ ofL d j ≤ B
theorem tame.mono {d : List Int} {B B' : Int} (h : tame d B) (hB : B ≤ B') : tame d B' := fun j hj => by have := h j hj; omega
theorem addAt_tame {d : List Int} {B n : Int} (h : tame d B) {i : Nat} (hi : i < d.length) {C : Int} (hn : -C ≤ n ∧ n ≤ C) : tame (addAt d i n) (B + C) := fun j hj => by
  rw [addAt_len] at hj
  have := h j hj
  rw [ofL_addAt _ _ _ _ hi]
  split <;> omega
/-- with the first k neighbours -/
theorem addAll_take (n : Int) (l : List Nat) (d : List Int) (k : Nat) (hk : k < l.length) : addAll n (l.take (k + 1)) d = addAt (addAll n (l.take k) d) l[k] n := by
  rw [List.take_succ_eq_append_getElem hk, addAll, List.foldl_append]; rfl
theorem addAll_tame {n B : Int} (hn : 0 ≤ n) : ∀ (l : List Nat) (d : List Int), tame d B → (∀ x ∈ l, x < d.length) → tame (addAll n l d) (B + l.length * n)
  | [], d, h, _ => by simpa [addAll] using h
  | x :: l, d, h, hl => by
    have h1 := addAt_tame h (hl x (by simp)) (n := n) (C := n) ⟨by omega, Int.le_refl _⟩
    have h2 := addAll_tame hn l (addAt d x n) h1 fun y hy => by rw [addAt_len]; exact hl y (by simp [hy])
    rw [addAll, List.foldl_cons]
    refine h2.mono ?_
    rw [List.length_cons, show (((l.length + 1 : Nat)) : Int) = (l.length : Int) + 1 by omega, Int.add_mul]
    omega
theorem nb_len (w h i : Nat) : (nb w h i).length ≤ 4 := by
  simp only [nb, List.length_append]
  have h5 : ∀ (p : Prop) [Decidable p] (x : Nat), (if p then [x] else ([] : List Nat)).length ≤ 1 := fun p _ x => by split <;> simp
  have a := h5 (0 < i / w) (i - w)
  have b := h5 (0 < i % w) (i - 1)
  have c := h5 (i % w + 1 < w) (i + 1)
  have e := h5 (i / w + 1 < h) (i + w)
  omega
theorem nth_nbI (w h i : Nat) {k : Nat} (hk : k < (nb w h i).length) : nth (nbI w h i) k = ((nb w h i)[k] : Int) := by
  rw [nth_eq (by rw [nbI, List.length_map]; exact hk)]; simp [nbI]
set_option maxRecDepth 100000 in
set_option maxHeartbeats 1000000 in
theorem Hit_calls (w h i : Nat) (n : Int) (dv : Value) (d : List Int) (hs : sized w h) (hi : i < w * h) (W : World) (hd : Ints W dv d) (hl : d.length = w * h) (ht : tame d 1000000000) (hn0 : 0 ≤ n) (hn : n ≤ 1000000000) :
    Calls Try.prog 44 #[.int .i64 w, .int .i64 h, dv, .int .i64 i, .int .i64 n] W (GivesN (hitL w h d i n) W) := by
  have hdl := hd.1
  have h36 : w * h ≤ 36 := Nat.mul_le_mul hs.2.1 hs.2.2.2
  obtain ⟨a, c, rfl⟩ := hd.form
  have hE : IntsN W.heap.size (Later.new W (.cells #[] 2)).w (.slice (some ⟨W.heap.size, 0, none⟩) 0 0) [] := by exact IntsN.empty _ rfl (Nat.le_refl _)
  obtain ⟨a1, n1, c1, q, hrun, hN⟩ := app_emptyN hE (hd.later _) (by simp [Later.new_w]) (by omega) 22
  simp only [Later.new_w] at hrun
  have HR := Lib.hid hrun
  clear hrun hE
  obtain ⟨g, rfl, hnl, hlg, hgs, hnc, fG, gG, hst, hgr⟩ := hN.set (k := i) (by omega) (nth d i - 4 * n)
  obtain rfl : n1 = w * h := by omega
  clear hnl
  have hii := ht i (by omega)
  have e1 : IntKind.i64.wrap (4 * n) = 4 * n := IntWalk.i64_in _ (by omega)
  have e2 : IntKind.i64.wrap (nth d i - 4 * n) = nth d i - 4 * n := IntWalk.i64_in _ (by rw [nth_ofL]; omega)
  have hci : (i : Int) < (w * h : Nat) := by omega
  go_enter Try.func44, Try.ntmps44
  go_wp2_with ((with_reducible show wpList _ _ _ (⟨some 16, _, _, _, _, _⟩ :: _) _ _); refine Lib.wpList_append_run_sl _ rfl _ _ 22 rfl _ _ rfl rfl HR.out ?_)
  have hA : d.set i (nth d i - 4 * n) = addAt d i (-(4 * n)) := by rw [addAt, nth_ofL]; rfl
  rw [hA] at hst
  obtain ⟨V, hV⟩ : ∃ V : Later W, V.w = q.w.setCell ⟨g, i, none⟩ (.int .i64 (nth d i - 4 * n)) := ⟨⟨_, ((Later.new W _).step q).le.setCell (p := ⟨g, i, none⟩) hlg _⟩, rfl⟩
  rw [← hV] at hst ⊢
  have hgV : g < V.w.heap.size := by rw [hV]; simp [World.setCell]; exact hgs
  clear hV hgr gG fG HR hN hA hii e1 e2 hci
  refine (Beside_calls w h i hs hi _).mono ?_
  rintro e w' ⟨lv, y, rfl, rfl, hB⟩
  obtain ⟨al, nl, cl, rfl⟩ := hB.form'
  have hnb := nb_all hs hi
  have hlb : (nbI w h i).length = (nb w h i).length := by simp [nbI]
  obtain ⟨al', cl', eL⟩ : ∃ a c, Value.slice al nl cl = .slice a (nb w h i).length c := by obtain ⟨a, c, e⟩ := hB.form; rw [hlb] at e; exact ⟨a, c, e⟩
  cases eL
  have hlen4 := nb_len w h i
  have ht1 := addAt_tame ht (i := i) (by omega) (n := -(4 * n)) (C := 4000000000) ⟨by omega, by omega⟩
  go_wp2
  go_loopw [13] (fun j wr => ∃ k : Nat, ∃ x : Later W, wr = x.w ∧ k ≤ (nb w h i).length ∧ j = .int .i64 k ∧ IntsM V.w.heap.size x.w (.slice al (nb w h i).length cl) (nbI w h i) ∧ IntsN W.heap.size x.w (.slice (some ⟨g, 0, none⟩) (w * h) c1) (addAll n ((nb w h i).take k) (addAt d i (-(4 * n))))) (fun j _ => (nb w h i).length - (intOf j).toNat)
  case atStart => exact ⟨0, V.step y, rfl, Nat.zero_le _, rfl, hB, by show IntsN W.heap.size y.w _ _; exact hst.later y⟩
  case round =>
    obtain ⟨k, x, rfl, hk, rfl, hL, hO⟩ := hrel
    by_cases hlt : k < (nb w h i).length
    · have hI := hL.ints (by omega)
      obtain ⟨bl, ol, cl', e, hcl, hbl, hgl⟩ := hI.at (k := k) (by omega)
      rw [hlb] at e
      cases e
      have gl := hgl k (by omega)
      rw [nth_nbI w h i hlt] at gl
      obtain ⟨J, hJ⟩ : ∃ J, (nb w h i)[k] = J := ⟨_, rfl⟩
      have hJl : J < w * h := by rw [← hJ]; exact hnb.2.1 _ (List.getElem_mem hlt)
      have hla : (addAll n ((nb w h i).take k) (addAt d i (-(4 * n)))).length = w * h := by rw [addAll_len, addAt_len, hl]
      obtain ⟨g', e1, hnl2, hlg2, hgs2, hnc2, fG, gG, hst2, hgr2⟩ := hO.set (k := J) (by omega) (nth (addAll n ((nb w h i).take k) (addAt d i (-(4 * n)))) J + n)
      cases e1
      rw [hJ] at gl
      have hsu := addAll_take n (nb w h i) (addAt d i (-(4 * n))) k hlt
      rw [hJ] at hsu
      rw [show ((addAll n ((nb w h i).take k) (addAt d i (-(4 * n)))).set J (nth (addAll n ((nb w h i).take k) (addAt d i (-(4 * n)))) J + n)) = addAll n ((nb w h i).take (k + 1)) (addAt d i (-(4 * n))) from hsu.symm] at hst2
      clear hnl2
      have htk := addAll_tame hn0 ((nb w h i).take k) _ ht1 (fun x hx => by rw [addAt_len, hl]; exact hnb.2.1 x (List.mem_of_mem_take hx)) J (by omega)
      have hlk : (((nb w h i).take k).length : Int) ≤ 4 := by rw [List.length_take]; omega
      have hmul : (((nb w h i).take k).length : Int) * n ≤ 4 * n := Int.mul_le_mul_of_nonneg_right hlk hn0
      have e2 : IntKind.i64.wrap (nth (addAll n ((nb w h i).take k) (addAt d i (-(4 * n)))) J + n) = nth (addAll n ((nb w h i).take k) (addAt d i (-(4 * n)))) J + n := IntWalk.i64_in _ (by rw [nth_ofL]; omega)
      have hJn : (J : Int) < (w * h : Nat) := by omega
      have hB2 := x.le.setCell (p := ⟨g, J, none⟩) hlg (.int .i64 (nth (addAll n ((nb w h i).take k) (addAt d i (-(4 * n)))) J + n))
      have hL2 := hL.kept hgr2 (.inr (by
        intro e
        have h1 := (World.ownsRow.lt hL _ e).1
        omega))
      clear hgl hsu hmul hlk htk
      go_wp2
      go_roundw
      case rel => exact ⟨k + 1, ⟨_, hB2⟩, rfl, by omega, by go_num, hL2, hst2⟩
      case measure => simp [intOf]; omega
    · obtain rfl : k = (nb w h i).length := by omega
      rw [List.take_length] at hO
      go_wp2
      go_ret
      exact ⟨_, x, rfl, rfl, hO⟩
end Go.Proofs.Ytbjmfhlkmklmmaa

namespace Go.Proofs.Ytbjmfhlkmklmmaa
open Go.RowKit

theorem sum_addAt {N : Nat} {U : List Int} {i : Nat} (hi : i < N) (hl : U.length = N) (n : Int) : Sand.sum N (ofL (addAt U i n)) = Sand.sum N (ofL U) + n := by
  rw [Sand.sum_congr (g := fun j => ofL U j + if j = i then n else 0) N fun j _ => ofL_addAt U i n j (by omega), Sand.sum_add, Sand.sum_one N i n hi]
theorem sum_const (c : Int) : ∀ n : Nat, Sand.sum n (fun _ => c) = n * c
  | 0 => by simp [Sand.sum]
  | n + 1 => by rw [Sand.sum, sum_const c n, show (((n + 1 : Nat)) : Int) = (n : Int) + 1 by omega, Int.add_mul]; omega
/-- dents that are not too many -/
def low (w h : Nat) (d : List Int) : Prop := ∀ j, j < w * h → 0 ≤ ofL d j ∧ ofL d j ≤ 60
section
variable {w h : Nat} (hs : sized w h) {d u x : List Int} (hr : RunL w h d u x) (hd : low w h d)
include hs hr hd
theorem low_u : ∀ j, j < w * h → ofL u j ≤ 348 := fun j hj => by
  have := hr.bound hs (K := 29) (by omega) (fun j hj => by have := (hd j hj).2; omega) j hj
  omega
theorem low_sum : Sand.sum (w * h) (ofL u) ≤ 12528 := by
  have h1 := Sand.sum_mono (f := ofL u) (g := fun _ => 348) (w * h) fun j hj => low_u hs hr hd j hj
  rw [sum_const] at h1
  have h36 : w * h ≤ 36 := Nat.mul_le_mul hs.2.1 hs.2.2.2
  have : ((w * h : Nat) : Int) * 348 ≤ 36 * 348 := Int.mul_le_mul_of_nonneg_right (by omega) (by omega)
  omega
theorem low_x : ∀ j, j < w * h → 0 ≤ ofL x j ∧ ofL x j ≤ 20000 := fun j hj => by
  refine ⟨hr.dents (fun k hk => (hd k hk).1) j hj, ?_⟩
  have h1 := hr.is j hj
  rw [Sand.ap] at h1
  have h2 := Sand.sum_mono (f := fun i => (pl w h).a i j * ofL u i) (g := fun _ => 348) (w * h) fun i hi => by
    have h3 := low_u hs hr hd i hi
    have h4 := hr.pos i hi
    show (if near w i j then (1 : Int) else 0) * ofL u i ≤ 348
    split <;> omega
  rw [sum_const] at h2
  have h36 : w * h ≤ 36 := Nat.mul_le_mul hs.2.1 hs.2.2.2
  have h5 : ((w * h : Nat) : Int) * 348 ≤ 36 * 348 := Int.mul_le_mul_of_nonneg_right (by omega) (by omega)
  have h6 := (hd j hj).2
  have h7 := hr.pos j hj
  have h8 : (pl w h).N = w * h := rfl
  rw [h8] at h1
  omega
end
/-- what hammering returns -/
def GivesF (w h : Nat) (d : List Int) (W : World) (e : Ending) (W' : World) : Prop := ∃ xv uv X U, ∃ y : Later W, e = .returned (.tuple #[xv, uv]) ∧ W' = y.w ∧ IntsN W.heap.size y.w xv X ∧ IntsN W.heap.size y.w uv U ∧ Ham w h d X U
set_option maxRecDepth 100000 in
set_option maxHeartbeats 2000000 in
theorem FlattenOf_calls (w h : Nat) (dv : Value) (d : List Int) (hs : sized w h) (W : World) (hd : Ints W dv d) (hl : d.length = w * h) (hlow : low w h d) :
    Calls Try.prog 60 #[.int .i64 w, .int .i64 h, dv] W (GivesF w h d W) := by
  have hdl := hd.1
  have h36 : w * h ≤ 36 := Nat.mul_le_mul hs.2.1 hs.2.2.2
  obtain ⟨a, c, rfl⟩ := hd.form
  have hE : IntsN W.heap.size (Later.new W (.cells #[] 2)).w (.slice (some ⟨W.heap.size, 0, none⟩) 0 0) [] := by exact IntsN.empty _ rfl (Nat.le_refl _)
  obtain ⟨a1, n1, c1, q, hrun, hN⟩ := app_emptyN hE (hd.later _) (by simp [Later.new_w]) (by omega) 22
  simp only [Later.new_w] at hrun
  have HR := Lib.hid hrun
  clear hrun hE
  obtain ⟨N, hNN⟩ : ∃ N, w * h = N := ⟨_, rfl⟩
  have hlN : d.length = N := by omega
  have hN36 : N ≤ 36 := by omega
  have HN := Lib.hid hNN
  have HL := Lib.hid hl
  clear hNN hl h36
  have hmk : ∀ (w' : World), (Instr.makeSlice 22 (.int .i64 (N : Int)) (.int .i64 (N : Int))).run Try.prog w' = .ok (.slice (some ⟨w'.heap.size, 0, none⟩) N N) (w'.alloc (.cells (madeCells #[.int .i64 0] N) 2)) :=
    fun w' => run_make_row' _ _ _ 8 Try.underlying22 (by kernel_rfl) rfl _ _ _ (by omega) (by omega) w'
  go_enter Try.func60, Try.ntmps60
  go_wp2_with ((with_reducible show wpList _ _ _ (⟨some 14, _, _, _, _, _⟩ :: _) _ _); refine Lib.wpList_append_run_sl _ rfl _ _ 22 rfl _ _ rfl rfl HR.out ?_)
  have hU0 : IntsN W.heap.size (q.w.alloc (.cells (madeCells #[.int .i64 0] N) 2)) (.slice (some ⟨q.w.heap.size, 0, none⟩) N N) (List.replicate N 0) := by
    have h1 := World.ownsRow_lit (base := W.heap.size) (e := 2) (size := 1) q.w (madeCells #[.int .i64 0] N) N (by have := q.size; simp [Later.new_w] at this; omega) (by simp only [maxLen]; omega) (by simp [madeCells])
    rw [toList_madeCells_one] at h1
    show World.ownsRow _ _ _ _ _ _ _
    simpa using h1
  obtain ⟨Z, hZ⟩ : ∃ Z : Later W, Z.w = q.w.alloc (.cells (madeCells #[.int .i64 0] N) 2) := ⟨((Later.new W _).step q).step (Later.new _ _), rfl⟩
  have hN1 : IntsN W.heap.size Z.w (.slice a1 n1 c1) d := by rw [hZ]; exact hN.later (Later.new _ _)
  have hne0 : (Value.slice a1 n1 c1).ownBlock ≠ some q.w.heap.size := fun e => by have := (World.ownsRow.lt hN _ e).2; omega
  rw [← hZ] at hU0 ⊢
  obtain ⟨G, hG⟩ : ∃ G, G = q.w.heap.size := ⟨_, rfl⟩
  have hGZ : G < Z.w.heap.size := by rw [hZ, hG]; simp
  have hGW : W.heap.size ≤ G := by rw [hG]; have := q.size; simp [Later.new_w] at this; omega
  rw [← hG] at hU0 hne0 ⊢
  clear hZ hN hmk HR hG
  clear q
  go_loopg [8, 10] (40 * 13000) (fun gk l i wr => ∃ (k : Nat) (X U : List Int) (x : Later W), wr = x.w ∧ k ≤ N ∧ i = .int .i64 k ∧ IntsN W.heap.size x.w l X ∧ l.ownBlock ≠ some G ∧ IntsN W.heap.size x.w (.slice (some ⟨G, 0, none⟩) N N) U ∧ Hid (RunL w h d U X ∧ (∀ j, j < k → ofL X j ≤ 3) ∧ (12600 - Sand.sum N (ofL U)) * 40 + N - k < gk))
  case atStart =>
    refine ⟨0, d, List.replicate N 0, Z, rfl, Nat.zero_le _, rfl, hN1, hne0, hU0, ⟨?_, fun j hj => absurd hj (Nat.not_lt_zero _), ?_⟩⟩
    · have := RunL.start (w := w) (h := h) (d := d) HL.out
      rwa [HN.out] at this
    · have h1 := Sand.sum_nonneg (f := ofL (List.replicate N 0)) N fun i hi => by simp [ofL, hi]
      omega
  case round =>
    obtain ⟨k, X, U, x, rfl, hk, rfl, hX, hne, hU, hI⟩ := hrel
    have hlX : X.length = N := by rw [hI.out.1.2.2.1]; exact HN.out
    have hlU : U.length = N := by rw [hI.out.1.2.1]; exact HN.out
    obtain ⟨al, nl, cl, rfl⟩ := hX.form'
    have hnl : N = nl := by
      obtain ⟨a, c, e⟩ := hX.form
      cases e
      exact hlX.symm
    subst hnl
    by_cases hlt : k < N
    · have hXi := hX.ints (by omega)
      obtain ⟨bx, ox, cx, e, hcx, hbx, hgx⟩ := hXi.at (k := k) (by omega)
      rw [hlX] at e
      cases e
      have gx := hgx k (by omega)
      have hkN : k < w * h := by rw [HN.out]; exact hlt
      have hlo := low_x hs hI.out.1 hlow k hkN
      obtain ⟨v, hv⟩ : ∃ v, nth X k = v := ⟨_, rfl⟩
      have hv' : ofL X k = v := hv
      rw [hv'] at hlo
      rw [hv] at gx
      have e1 : wrap64 (v / 4) = v / 4 := IntWalk.wrap64_in _ (by omega)
      clear hgx
      have hgk : (0 : Int) < gk := by
        have h1 := low_sum hs hI.out.1 hlow
        have h2 := hI.out.2.2
        rw [HN.out] at h1
        omega
      by_cases hp : 0 < v / 4
      · have hbl := hI.out.1.blow hs hkN (n := v / 4) (by omega) (by rw [hv']; omega)
        have hlu := low_u hs hbl hlow k hkN
        have hup := hI.out.1.pos k hkN
        rw [ofL_addAt _ _ _ _ (by omega), if_pos rfl] at hlu
        have e3 : IntKind.i64.wrap (nth U k + v / 4) = nth U k + v / 4 := IntWalk.i64_in _ (by rw [nth_ofL]; omega)
        have hsum := low_sum hs hbl hlow
        rw [HN.out] at hsum
        have hsa := sum_addAt (N := N) (U := U) (i := k) hlt hlU (v / 4)
        rw [hsa] at hsum
        have hHit := Hit_calls w h k (v / 4) _ X hs hkN x.w hXi (by rw [HN.out]; exact hlX) (fun j hj => by have := low_x hs hI.out.1 hlow j (by rw [HN.out]; omega); omega) (by omega) (by omega)
        have HH := Lib.hid hHit
        have HI2 := Lib.hid (show (12600 - Sand.sum N (ofL (addAt U k (v / 4)))) * 40 + N - ((0 : Nat) : Int) < ((gk - 1 : Nat) : Int) by rw [hsa]; have := hI.out.2.2; omega)
        have HB := Lib.hid hbl
        clear hHit hsum hsa hup hlu hbl
        go_wp2_with fail
        refine HH.out.mono ?_
        rintro e w' ⟨xv, y, rfl, rfl, hX2⟩
        obtain ⟨ax2, nx2, cx2, rfl⟩ := hX2.form'
        obtain ⟨G', e2, hz1, hz2, hgs, hnc, fG, gG, hst, hgr⟩ := (hU.later y).set (k := k) (by omega) (nth U k + v / 4)
        cases e2
        clear hz1
        have hGx : G < x.w.heap.size := by
          obtain ⟨G', e2, _, _, hgs, _⟩ := hU.set (k := k) (by omega) (nth U k + v / 4)
          cases e2
          exact hgs
        have hB3 := (x.step y).le.setCell (p := ⟨G, k, none⟩) hGW (.int .i64 (nth U k + v / 4))
        have hne2 : (Value.slice ax2 nx2 cx2).ownBlock ≠ some G := fun e => by have := (World.ownsRow.lt hX2 _ e).1; omega
        have hX3 := (hX2.mono x.size).kept hgr (.inr hne2)
        clear HH
        go_wp2
        go_roundg (gk - 1)
        case measure => omega
        case rel => exact ⟨0, _, _, ⟨_, hB3⟩, rfl, Nat.zero_le _, by go_num, hX3, hne2, hst, ⟨HB.out, fun j hj => absurd hj (Nat.not_lt_zero _), HI2.out⟩⟩
      · have HI2 := Lib.hid (show (12600 - Sand.sum N (ofL U)) * 40 + N - ((k + 1 : Nat) : Int) < ((gk - 1 : Nat) : Int) by have := hI.out.2.2; omega)
        have hfl := Lib.hid (show ∀ j, j < k + 1 → ofL X j ≤ 3 from fun j hj => by
          by_cases e : j = k
          · subst e; omega
          · exact hI.out.2.1 j (by omega))
        go_wp2
        go_roundg (gk - 1)
        case measure => omega
        case rel => exact ⟨k + 1, X, U, x, rfl, by omega, by go_num, hX, hne, hU, ⟨hI.out.1, hfl.out, HI2.out⟩⟩
    · have hfl := Lib.hid (show ∀ j, j < w * h → ofL X j ≤ 3 from fun j hj => hI.out.2.1 j (by rw [HN.out] at hj; omega))
      go_wp2
      go_ret2
      exact ⟨_, _, X, U, x, rfl, rfl, hX, hU, hI.out.1, hfl.out⟩
end Go.Proofs.Ytbjmfhlkmklmmaa

namespace Go.Proofs.Ytbjmfhlkmklmmaa
open Go.RowKit

/-- it returns a list and a number -/
def GivesLE (L : List Int) (err : Int) (W : World) (e : Ending) (W' : World) : Prop := ∃ v, ∃ x : Later W, e = .returned (.tuple #[v, .int .i64 err]) ∧ W' = x.w ∧ Ints x.w v L
theorem ret_le {v : Value} {a b : Int} (h : a = b) : Ending.returned (.tuple #[v, .int .i64 a]) = .returned (.tuple #[v, .int .i64 b]) := by rw [h]
theorem vplate_low {w h : Nat} {d : List Int} (hl : d.length = w * h) (hlo : ∀ j, j < d.length → 0 ≤ nth d j ∧ nth d j ≤ 30) : low w h d := fun j hj => by
  have := hlo j (by omega)
  rw [nth_ofL] at this
  omega
/-- the dents behind one blow, or the error -/
def blowE (w h : Int) (d : List Int) (p : Int) : Int := if vplate w h d ≠ 0 then vplate w h d else if p < 0 ∨ (d.length : Int) ≤ p then 2 else if ofL d p.toNat < 4 then 9 else 0
def blowL (w h : Int) (d : List Int) (p : Int) : List Int := if blowE w h d p = 0 then hitL w.toNat h.toNat d p.toNat 1 else []

set_option maxHeartbeats 1000000 in
theorem Sum_calls (dv : Value) (d : List Int) (W : World) (hd : Ints W dv d) (hl : d.length ≤ 36) (ht : tame d 1000000) :
    Calls Try.prog 45 #[dv] W fun e W' => e = .returned (.int .i64 (Sand.sum d.length (ofL d))) ∧ W' = W := by
  have hdl := hd.1
  obtain ⟨a, c, rfl⟩ := hd.form
  go_enter Try.func45, Try.ntmps45
  go_wp2
  go_loop [3, 4] (fun s i => ∃ k : Nat, k ≤ d.length ∧ i = .int .i64 k ∧ s = .int .i64 (Sand.sum k (ofL d))) (fun _ i => d.length - (intOf i).toNat)
  case atStart => exact ⟨0, Nat.zero_le _, rfl, rfl⟩
  case round =>
    obtain ⟨k, hk, rfl, rfl⟩ := hrel
    by_cases hlt : k < d.length
    · obtain ⟨bd, od, cd, e, hcd, hbd, hgd⟩ := hd.at hlt
      cases e
      have gd := hgd k hlt
      have h1 : -((k : Int) * 1000000) ≤ Sand.sum k (ofL d) ∧ Sand.sum k (ofL d) ≤ (k : Int) * 1000000 := by
        have h2 := Sand.sum_mono (f := ofL d) (g := fun _ => 1000000) k fun i hi => (ht i (by omega)).2
        have h3 := Sand.sum_mono (f := fun _ => -1000000) (g := ofL d) k fun i hi => (ht i (by omega)).1
        rw [sum_const] at h2 h3
        omega
      have h2 := ht k hlt
      have e1 : IntKind.i64.wrap (Sand.sum k (ofL d) + nth d k) = Sand.sum k (ofL d) + nth d k := IntWalk.i64_in _ (by rw [nth_ofL]; omega)
      have hsu := Lib.hid (show Sand.sum (k + 1) (ofL d) = Sand.sum k (ofL d) + nth d k from rfl)
      clear hgd
      go_wp2
      go_round
      case rel => exact ⟨k + 1, by omega, by go_num, by rw [hsu.out]⟩
      case measure => simp [intOf]; omega
    · obtain rfl : k = d.length := by omega
      go_wp2
      go_ret
      exact ⟨rfl, rfl⟩
def flatB (d : List Int) : Bool := d.all fun x => decide (x ≤ 3)
theorem all_at (p : Int → Bool) (xs : List Int) (k : Nat) (h : k < xs.length) : (xs.drop k).all p = (p (nth xs k) && (xs.drop (k + 1)).all p) := by
  rw [List.drop_eq_getElem_cons h, List.all_cons, nth_eq h]
theorem all_end (p : Int → Bool) (xs : List Int) (k : Nat) (h : xs.length ≤ k) : (xs.drop k).all p = true := by
  rw [List.drop_eq_nil_of_le h]; rfl
set_option maxHeartbeats 1000000 in
theorem IsFlat_calls (dv : Value) (d : List Int) (W : World) (hd : Ints W dv d) :
    Calls Try.prog 58 #[dv] W fun e W' => e = .returned (.bool (flatB d)) ∧ W' = W := by
  have hdl := hd.1
  obtain ⟨a, c, rfl⟩ := hd.form
  go_enter Try.func58, Try.ntmps58
  go_wp2
  go_loop [3] (fun i => ∃ k : Nat, k ≤ d.length ∧ i = .int .i64 k ∧ Hid (flatB d = (d.drop k).all fun x => decide (x ≤ 3))) (fun i => d.length - (intOf i).toNat)
  case atStart => exact ⟨0, Nat.zero_le _, rfl, rfl⟩
  case round =>
    obtain ⟨k, hk, rfl, hp⟩ := hrel
    by_cases hlt : k < d.length
    · obtain ⟨bd, od, cd, e, hcd, hbd, hgd⟩ := hd.at hlt
      cases e
      have gd := hgd k hlt
      have ha := all_at (fun x => decide (x ≤ 3)) d k hlt
      clear hgd
      by_cases h3 : 3 < nth d k
      · have hr := Lib.hid (show flatB d = false by rw [hp.out, ha, decide_eq_false (by omega)]; rfl)
        clear ha
        go_wp2
        go_ret
        exact ⟨ret_bool hr.out.symm, rfl⟩
      · have hr := Lib.hid (show flatB d = (d.drop (k + 1)).all fun x => decide (x ≤ 3) by rw [hp.out, ha, decide_eq_true (by omega)]; rfl)
        clear ha
        go_wp2
        go_round
        case rel => exact ⟨k + 1, by omega, by go_num, hr⟩
        case measure => simp [intOf]; omega
    · have hr := Lib.hid (show flatB d = true by rw [hp.out, all_end _ _ _ (by omega)])
      go_wp2
      go_ret
      exact ⟨ret_bool hr.out.symm, rfl⟩
set_option maxRecDepth 100000 in
set_option maxHeartbeats 1000000 in
theorem refBlow_calls (w h p : Int) (dv : Value) (d : List Int) (W : World) (hd : Ints W dv d) :
    Calls Try.prog 21 #[.agg #[.int .i64 w, .int .i64 h, dv], .int .i64 p] W (GivesLE (blowL w h d p) (blowE w h d p) W) := by
  have hdl := hd.1
  obtain ⟨a, c, rfl⟩ := hd.form
  go_enter Try.func21, Try.ntmps21
  go_wp2_with fail
  obtain ⟨B, hB⟩ : ∃ B, B = W.heap.size := ⟨_, rfl⟩
  obtain ⟨z, hz⟩ : ∃ z : Later W, z.w = W.alloc (.cells #[.int .i64 w, .int .i64 h, .slice a d.length c] 24) := ⟨Later.new _ _, rfl⟩
  have c0 : z.w.cell? ⟨B, 0, none⟩ = some (.int .i64 w) := by rw [hz, hB]; simp [go_sem]
  have c1 : z.w.cell? ⟨B, 1, none⟩ = some (.int .i64 h) := by rw [hz, hB]; simp [go_sem]
  have c2 : z.w.cell? ⟨B, 2, none⟩ = some (.slice a d.length c) := by rw [hz, hB]; simp [go_sem]
  have hBz : B < z.w.heap.size := by rw [hz, hB]; simp [go_sem]
  have HZ : Hid (z.w.heap.size = B + 1) := Lib.hid (by rw [hz, hB]; simp)
  rw [← hz, ← hB]
  replace hd := hd.later z
  clear hz hB
  refine (refCheckPlate_calls w h _ d _ hd).mono ?_
  rintro e w' ⟨rfl, x, rfl⟩
  by_cases hv : vplate w h d = 0
  rotate_left
  · have hE := Lib.hid (show blowE w h d p = vplate w h d by rw [blowE, if_pos hv])
    have hL := Lib.hid (show blowL w h d p = [] by rw [blowL, if_neg (by rw [hE.out]; exact hv)])
    have hb2 : (vplate w h d != 0) = true := by simpa using hv
    go_wp2_with fail
    refine (refCheckPlate_calls w h _ d _ (hd.later x)).mono ?_
    rintro e w' ⟨rfl, y, rfl⟩
    go_wp2
    go_ret2
    exact ⟨.slice none 0 0, (z.step x).step y, ret_le hE.out.symm, rfl, by rw [hL.out]; exact Ints.nil _ _⟩
  · have hv0 := hv
    obtain ⟨wn, hn, rfl, rfl, hs, hl, hlo⟩ := vplate_zero hv
    have hlow := vplate_low hl hlo
    have HL := Lib.hid hl
    clear hl hlo
    rw [hv]
    by_cases hp : p < 0 ∨ (d.length : Int) ≤ p
    · have hE := Lib.hid (show blowE wn hn d p = 2 by rw [blowE, if_neg (by rw [hv0]; simp), if_pos hp])
      have hL := Lib.hid (show blowL wn hn d p = [] by rw [blowL, if_neg (by rw [hE.out]; simp)])
      clear hv hv0
      rcases hp with hp | hp
      · go_wp2
        go_ret2
        exact ⟨.slice none 0 0, z.step x, ret_le hE.out.symm, rfl, by rw [hL.out]; exact Ints.nil _ _⟩
      · have hp0 : ¬ p < 0 := by omega
        go_wp2
        go_ret2
        exact ⟨.slice none 0 0, z.step x, ret_le hE.out.symm, rfl, by rw [hL.out]; exact Ints.nil _ _⟩
    · obtain ⟨k, rfl⟩ : ∃ k : Nat, p = k := ⟨p.toNat, by omega⟩
      have hkl : k < d.length := by omega
      have hkl2 : ¬ (d.length : Int) ≤ k := by omega
      obtain ⟨bd, od, cd, e, hcd, hbd, hgd⟩ := hd.at hkl
      cases e
      have gd := hgd k hkl
      clear hgd
      by_cases h4 : nth d k < 4
      · have hE := Lib.hid (show blowE wn hn d k = 9 by rw [blowE, if_neg (by rw [hv0]; simp), if_neg hp, Int.toNat_natCast, if_pos (by rw [← nth_ofL]; exact h4)])
        have hL := Lib.hid (show blowL wn hn d k = [] by rw [blowL, if_neg (by rw [hE.out]; simp)])
        clear hv hv0 hp
        go_wp2
        go_ret2
        exact ⟨.slice none 0 0, z.step x, ret_le hE.out.symm, rfl, by rw [hL.out]; exact Ints.nil _ _⟩
      · have hE := Lib.hid (show blowE wn hn d k = 0 by rw [blowE, if_neg (by rw [hv0]; simp), if_neg hp, Int.toNat_natCast, if_neg (by rw [← nth_ofL]; exact h4)])
        have hL := Lib.hid (show blowL wn hn d k = hitL wn hn d k 1 by rw [blowL, if_pos hE.out, Int.toNat_natCast, Int.toNat_natCast, Int.toNat_natCast])
        have hH := Lib.hid (Hit_calls wn hn k 1 _ d hs (by rw [← HL.out]; exact hkl) x.w (hd.later x) HL.out (fun j hj => by have := hlow j (by rw [← HL.out]; exact hj); omega) (by omega) (by omega))
        clear hv hv0 hp
        go_wp2_with fail
        refine hH.out.mono ?_
        rintro e w' ⟨v, y, rfl, rfl, hN⟩
        obtain ⟨av, nv, cv, rfl⟩ := hN.form'
        go_wp2
        go_ret2
        exact ⟨_, (z.step x).step y, ret_le hE.out.symm, rfl, by rw [hL.out]; exact hN.ints (by rw [hitL_len]; omega)⟩

end Go.Proofs.Ytbjmfhlkmklmmaa

namespace Go.Proofs.Ytbjmfhlkmklmmaa
open Go.RowKit

/-- what a plate comes to, and by which blows -/
noncomputable def hamP (w h : Nat) (d : List Int) : List Int × List Int := open Classical in if hx : ∃ p : List Int × List Int, Ham w h d p.1 p.2 then Classical.choose hx else ([], [])
theorem Ham.eq {w h : Nat} {d X U : List Int} (hm : Ham w h d X U) : hamP w h d = (X, U) := by
  have hx : ∃ p : List Int × List Int, Ham w h d p.1 p.2 := ⟨(X, U), hm⟩
  rw [hamP, dif_pos hx]
  obtain ⟨h1, h2⟩ := (Classical.choose_spec hx).unique hm
  exact Prod.ext h1 h2
noncomputable def flatX (w h : Int) (d : List Int) : List Int := if vplate w h d = 0 then (hamP w.toNat h.toNat d).1 else []
noncomputable def flatU (w h : Int) (d : List Int) : List Int := if vplate w h d = 0 then (hamP w.toNat h.toNat d).2 else []
noncomputable def lostN (w h : Int) (d : List Int) : Int := if vplate w h d = 0 then Sand.sum d.length (ofL d) - Sand.sum (flatX w h d).length (ofL (flatX w h d)) else 0
/-- it returns two lists and a number -/
def GivesLLE (L M : List Int) (err : Int) (W : World) (e : Ending) (W' : World) : Prop := ∃ v u, ∃ x : Later W, e = .returned (.tuple #[v, u, .int .i64 err]) ∧ W' = x.w ∧ Ints x.w v L ∧ Ints x.w u M
theorem ret_lle {v u : Value} {a b : Int} (h : a = b) : Ending.returned (.tuple #[v, u, .int .i64 a]) = .returned (.tuple #[v, u, .int .i64 b]) := by rw [h]
theorem results_tmp3 {fn : Func} {t u v : Tmp} (h : fn.results = #[.tmp t, .tmp u, .tmp v]) (tmps : Array Value) (P : Program) (w : World) :
    (results fn tmps).run P w = .ok (.tuple #[tmps.getD t undef, tmps.getD u undef, tmps.getD v undef]) w := by simp [results, h]
/-- the plate behind as many blows at each of the first k places -/
def hitsL (w h : Nat) (d bl : List Int) (k : Nat) : List Int := (List.range k).foldl (fun x i => hitL w h x i (ofL bl i)) d
theorem hitsL_succ (w h : Nat) (d bl : List Int) (k : Nat) : hitsL w h d bl (k + 1) = hitL w h (hitsL w h d bl k) k (ofL bl k) := by rw [hitsL, List.range_succ, List.foldl_append]; rfl
theorem hitsL_len (w h : Nat) (d bl : List Int) : ∀ k, (hitsL w h d bl k).length = d.length
  | 0 => rfl
  | k + 1 => by rw [hitsL_succ, hitL_len, hitsL_len w h d bl k]
theorem hitsL_tame {w h : Nat} (hs : sized w h) {d bl : List Int} (hd : d.length = w * h) (ht : tame d 30) (hb : ∀ j, j < bl.length → 0 ≤ ofL bl j ∧ ofL bl j ≤ 1000000) (hbl : bl.length = w * h) : ∀ k, k ≤ w * h → tame (hitsL w h d bl k) (30 + k * 8000000)
  | 0, _ => ht.mono (by omega)
  | k + 1, hk => by
    have h1 := hitsL_tame hs hd ht hb hbl k (by omega)
    have h2 := hb k (by omega)
    have h3 := nb_all hs (i := k) (by omega)
    rw [hitsL_succ, hitL]
    have h4 := addAt_tame h1 (i := k) (by rw [hitsL_len]; omega) (n := -(4 * ofL bl k)) (C := 4000000) ⟨by omega, by omega⟩
    have h5 := addAll_tame (n := ofL bl k) (by omega) (nb w h k) _ h4 (fun x hx => by rw [addAt_len, hitsL_len]; have := h3.2.1 x hx; omega)
    refine h5.mono ?_
    have h6 := nb_len w h k
    have h7 : ((nb w h k).length : Int) * ofL bl k ≤ 4 * ofL bl k := Int.mul_le_mul_of_nonneg_right (by omega) h2.1
    omega
/-- whether blows leave a plate flat, or the error -/
def blowsE (w h : Int) (d bl : List Int) : Int := if vplate w h d ≠ 0 then vplate w h d else if bl.length ≠ d.length then 15 else if bl.any (outB 0 1000000) then 3 else if flatB (hitsL w.toNat h.toNat d bl bl.length) then 0 else 22
set_option maxRecDepth 100000 in
set_option maxHeartbeats 1000000 in
theorem refFlatten_calls (w h : Int) (dv : Value) (d : List Int) (W : World) (hd : Ints W dv d) :
    Calls Try.prog 28 #[.agg #[.int .i64 w, .int .i64 h, dv]] W (GivesLLE (flatX w h d) (flatU w h d) (vplate w h d) W) := by
  have hdl := hd.1
  obtain ⟨a, c, rfl⟩ := hd.form
  go_enter Try.func28, Try.ntmps28
  go_wp2_with fail
  obtain ⟨B, hB⟩ : ∃ B, B = W.heap.size := ⟨_, rfl⟩
  obtain ⟨z, hz⟩ : ∃ z : Later W, z.w = W.alloc (.cells #[.int .i64 w, .int .i64 h, .slice a d.length c] 24) := ⟨Later.new _ _, rfl⟩
  have c0 : z.w.cell? ⟨B, 0, none⟩ = some (.int .i64 w) := by rw [hz, hB]; simp [go_sem]
  have c1 : z.w.cell? ⟨B, 1, none⟩ = some (.int .i64 h) := by rw [hz, hB]; simp [go_sem]
  have c2 : z.w.cell? ⟨B, 2, none⟩ = some (.slice a d.length c) := by rw [hz, hB]; simp [go_sem]
  have hBz : B < z.w.heap.size := by rw [hz, hB]; simp [go_sem]
  have HZ : Hid (z.w.heap.size = B + 1) := Lib.hid (by rw [hz, hB]; simp)
  rw [← hz, ← hB]
  replace hd := hd.later z
  clear hz hB
  refine (refCheckPlate_calls w h _ d _ hd).mono ?_
  rintro e w' ⟨rfl, x, rfl⟩
  by_cases hv : vplate w h d = 0
  rotate_left
  · have hE := Lib.hid (show flatX w h d = [] ∧ flatU w h d = [] by rw [flatX, flatU, if_neg hv, if_neg hv]; exact ⟨rfl, rfl⟩)
    have hb2 : (vplate w h d != 0) = true := by simpa using hv
    go_wp2_with fail
    refine (refCheckPlate_calls w h _ d _ (hd.later x)).mono ?_
    rintro e w' ⟨rfl, y, rfl⟩
    go_wp2
    try simp only [Exit.inBlock, Exit.then]
    refine bodyPost_ret (results_tmp3 rfl _ _ _) rfl ?_
    exact ⟨.slice none 0 0, .slice none 0 0, (z.step x).step y, rfl, rfl, by rw [hE.out.1]; exact Ints.nil _ _, by rw [hE.out.2]; exact Ints.nil _ _⟩
  · have hE := Lib.hid (show flatX w h d = (hamP w.toNat h.toNat d).1 ∧ flatU w h d = (hamP w.toNat h.toNat d).2 by rw [flatX, flatU, if_pos hv, if_pos hv]; exact ⟨rfl, rfl⟩)
    have HV := Lib.hid hv
    obtain ⟨wn, hn, rfl, rfl, hs, hl, hlo⟩ := vplate_zero hv
    have hlow := vplate_low hl hlo
    have HL := Lib.hid hl
    clear hl hlo
    rw [hv]
    have hF := Lib.hid (FlattenOf_calls wn hn _ d hs x.w (hd.later x) HL.out (fun j hj => by have := hlow j hj; omega))
    clear hv
    go_wp2_with fail
    refine hF.out.mono ?_
    rintro e w' ⟨xv, uv, X, U, y, rfl, rfl, hX, hU, hH⟩
    obtain ⟨ax, nx, cx, rfl⟩ := hX.form'
    obtain ⟨au, nu, cu, rfl⟩ := hU.form'
    go_wp2
    try simp only [Exit.inBlock, Exit.then]
    refine bodyPost_ret (results_tmp3 rfl _ _ _) rfl ?_
    have hp := hH.eq
    have h36 : wn * hn ≤ 36 := Nat.mul_le_mul hs.2.1 hs.2.2.2
    have e1 := hE.out
    rw [Int.toNat_natCast, Int.toNat_natCast, hp] at e1
    rw [e1.1, e1.2]
    exact ⟨_, _, (z.step x).step y, ret_lle HV.out.symm, rfl, hX.ints (by rw [hH.run.2.2.1]; omega), hU.ints (by rw [hH.run.2.1]; omega)⟩

theorem flatX_len {w h : Int} {d X U : List Int} {wn hn : Nat} (hw : w = wn) (hh : h = hn) (hv : vplate w h d = 0) (hm : Ham wn hn d X U) : flatX w h d = X := by
  subst hw hh
  rw [flatX, if_pos hv, Int.toNat_natCast, Int.toNat_natCast, hm.eq]
end Go.Proofs.Ytbjmfhlkmklmmaa
