import Derived.Test.YtbjmfhlkmklmmaaKFire
import Derived.Test.YtbjmfhlkmklmmaaKMix
import Derived.Test.YtbjmfhlkmklmmaaKUpon
/-  Neutral of the definitions. -/
namespace Go.Proofs.Ytbjmfhlkmklmmaa
open Go.RowKit

def sixL (n : Nat) : List Int := List.replicate n 6
/-- twice as high as a flat one may be, less what is left of that: the first k places -/
def lessL (n : Nat) (X : List Int) (k : Nat) : List Int := (List.range n).map fun j => if j < k then 6 - ofL X j else 6
theorem lessL_len (n : Nat) (X : List Int) (k : Nat) : (lessL n X k).length = n := by simp [lessL]
theorem ofL_lessL (n : Nat) (X : List Int) (k : Nat) {j : Nat} (hj : j < n) : ofL (lessL n X k) j = if j < k then 6 - ofL X j else 6 := by simp [ofL, lessL, hj]
theorem lessL_zero (n : Nat) (X : List Int) : lessL n X 0 = sixL n := ofL_ext (by rw [lessL_len, sixL, List.length_replicate]) fun j hj => by
  rw [lessL_len] at hj
  rw [ofL_lessL _ _ _ hj, if_neg (Nat.not_lt_zero _)]; simp [ofL, sixL, hj]
theorem lessL_set (n : Nat) (X : List Int) {k : Nat} (hk : k < n) : (lessL n X k).set k (6 - ofL X k) = lessL n X (k + 1) := ofL_ext (by rw [List.length_set, lessL_len, lessL_len]) fun j hj => by
  rw [List.length_set, lessL_len] at hj
  rw [ofL_set _ _ _ _ (by rw [lessL_len]; exact hk), ofL_lessL _ _ _ hj, ofL_lessL _ _ _ hj]
  by_cases e : j = k
  · subst e; rw [if_pos rfl, if_pos (Nat.lt_succ_self _)]
  · rw [if_neg e]
    by_cases h2 : j < k
    · rw [if_pos h2, if_pos (by omega)]
    · rw [if_neg h2, if_neg (by omega)]
noncomputable def neutD (w h : Nat) : List Int := lessL (w * h) (hamP w h (sixL (w * h))).1 (w * h)
noncomputable def neutF (w h : Nat) : List Int := (hamP w h (neutD w h)).1
def neutE (w h : Int) : Int := if sizeB w h 6 = false then 3 else 0
noncomputable def neutL (w h : Int) : List Int := if neutE w h = 0 then neutF w.toNat h.toNat else []
theorem sixL_len (n : Nat) : (sixL n).length = n := List.length_replicate
theorem sixL_at {n j : Nat} (hj : j < n) : ofL (sixL n) j = 6 := by simp [ofL, sixL, hj]
theorem sixL_low (w h : Nat) : low w h (sixL (w * h)) := fun j hj => by rw [sixL_at hj]; omega
theorem Ham.range {w h : Nat} {d X U : List Int} (hm : Ham w h d X U) (hd : low w h d) : ∀ j, j < w * h → 0 ≤ ofL X j ∧ ofL X j ≤ 3 := fun j hj => ⟨hm.run.dents (fun i hi => (hd i hi).1) j hj, hm.flat j hj⟩
theorem less_low {w h : Nat} {X U : List Int} (hm : Ham w h (sixL (w * h)) X U) : low w h (lessL (w * h) X (w * h)) := fun j hj => by
  rw [ofL_lessL _ _ _ hj, if_pos hj]
  have := hm.range (sixL_low w h) j hj
  omega
theorem sizeB_nat {w h : Int} (hz : sizeB w h 6 = true) : ∃ wn hn : Nat, w = wn ∧ h = hn ∧ sized wn hn := by
  simp only [sizeB, Bool.and_eq_true, decide_eq_true_iff] at hz
  exact ⟨w.toNat, h.toNat, by omega, by omega, by unfold sized; omega⟩
set_option maxRecDepth 100000 in
set_option maxHeartbeats 2000000 in
theorem all_calls (w h : Nat) (c : Int) (hs : sized w h) (W : World) :
    Calls Try.prog 66 #[.int .i64 w, .int .i64 h, .int .i64 c] W (GivesN (List.replicate (w * h) c) W) := by
  have h36 : w * h ≤ 36 := Nat.mul_le_mul hs.2.1 hs.2.2.2
  obtain ⟨N, hN⟩ : ∃ N, w * h = N := ⟨_, rfl⟩
  have emul : IntKind.i64.wrap ((w : Int) * (h : Int)) = (N : Int) := by
    rw [show (w : Int) * (h : Int) = ((w * h : Nat) : Int) from (Int.natCast_mul _ _).symm, hN]; exact IntWalk.i64_in _ (by omega)
  rw [hN] at h36 ⊢
  clear hN
  go_enter Try.func66, Try.ntmps66
  go_wp2
  go_loopw [7, 8] (fun s i wr => ∃ (k : Nat) (V : Later W) (a : Option Addr) (n c2 : Nat), wr = V.w ∧ k ≤ N ∧ i = .int .i64 k ∧ s = .slice a n c2 ∧ IntsN W.heap.size V.w (.slice a n c2) (List.replicate k c)) (fun _ i _ => N - (intOf i).toNat)
  case atStart => exact ⟨0, Later.self _, none, 0, 0, rfl, Nat.zero_le _, rfl, rfl, IntsN.nil _ _⟩
  case round =>
    obtain ⟨k, V, a, n, c2, rfl, hk, rfl, rfl, hS⟩ := hrel
    by_cases hlt : k < N
    · obtain ⟨v3, q, hrun, hS3, _⟩ := app_int_stepN V.le hS c (by rw [List.length_replicate]; omega) 22
      rw [show List.replicate k c ++ [c] = List.replicate (k + 1) c from (List.replicate_succ' ..).symm] at hS3
      obtain ⟨a3, n3, c3, rfl⟩ := hS3.form'
      have HR := Lib.hid hrun
      clear hrun
      go_wp2_with (at_builtin; (with_reducible show wpList _ _ _ (⟨some 19, _, _, _, _, _⟩ :: _) _ _); refine Lib.wpList_append_run_sl _ rfl _ _ 22 rfl _ _ rfl rfl HR.out ?_)
      go_roundw
      case rel => exact ⟨k + 1, q, _, _, _, rfl, by omega, by go_num, rfl, hS3⟩
      case measure => simp [intOf]; omega
    · obtain rfl : k = N := by omega
      go_wp2
      go_ret
      exact ⟨_, V, rfl, rfl, hS⟩

set_option maxRecDepth 100000 in
set_option maxHeartbeats 2000000 in
theorem refNeutral_calls (w h : Int) (W : World) :
    Calls Try.prog 39 #[.int .i64 w, .int .i64 h] W (GivesLE (neutL w h) (neutE w h) W) := by
  go_enter Try.func39, Try.ntmps39
  go_wp2_with fail
  refine (IsSize_calls w h 6 W).mono ?_
  rintro e w' ⟨rfl, hw⟩
  rw [hw]
  clear hw w'
  cases hz : sizeB w h 6
  · have hE := Lib.hid (show neutE w h = 3 by rw [neutE, if_pos hz])
    have hL := Lib.hid (show neutL w h = [] by rw [neutL, if_neg (by rw [hE.out]; simp)])
    go_wp2
    go_ret2
    exact ⟨.slice none 0 0, Later.self _, ret_le hE.out.symm, rfl, by rw [hL.out]; exact Ints.nil _ _⟩
  · have hE := Lib.hid (show neutE w h = 0 by rw [neutE, if_neg (by rw [hz]; simp)])
    obtain ⟨wn, hn, rfl, rfl, hs⟩ := sizeB_nat hz
    have hL := Lib.hid (show neutL wn hn = neutF wn hn by rw [neutL, if_pos hE.out, Int.toNat_natCast, Int.toNat_natCast])
    have h36 : wn * hn ≤ 36 := Nat.mul_le_mul hs.2.1 hs.2.2.2
    have h1w : 1 ≤ wn * hn := Nat.mul_le_mul hs.1 hs.2.2.1
    clear hz
    go_wp2_with fail
    refine (all_calls wn hn 6 hs W).mono ?_
    rintro e w' ⟨lv, x, rfl, rfl, hS⟩
    replace hS : IntsN W.heap.size x.w lv (sixL (wn * hn)) := hS
    obtain ⟨aS, nS, cS, rfl⟩ := hS.form'
    have hSI := hS.ints (by rw [sixL_len]; omega)
    go_wp2_with fail
    refine (FlattenOf_calls wn hn _ _ hs x.w hSI (sixL_len _) (sixL_low _ _)).mono ?_
    rintro e w' ⟨xv, uv, X, U, y, rfl, rfl, hX, hU, hH⟩
    obtain ⟨ax, nx, cx, rfl⟩ := hX.form'
    obtain ⟨au, nu, cu, rfl⟩ := hU.form'
    have hXl : X.length = wn * hn := hH.run.2.2.1
    have hD := Lib.hid (show neutD wn hn = lessL (wn * hn) X (wn * hn) by rw [neutD, hH.eq])
    have hrg := Lib.hid (hH.range (sixL_low wn hn))
    have hXS := fun (e : (Value.slice ax nx cx).ownBlock = (Value.slice aS nS cS).ownBlock) (g : Nat) (hg : (Value.slice aS nS cS).ownBlock = some g) => (show False from by
      have h1 := (World.ownsRow.lt hS g hg).2
      have h2 := (World.ownsRow.lt hX g (e.trans hg)).1
      omega)
    obtain ⟨gS, hgS⟩ : ∃ g, (Value.slice aS nS cS).ownBlock = some g := by
      obtain ⟨g, hg, _⟩ := hS.set (k := 0) (by rw [sixL_len]; omega) 0
      exact ⟨g, by rw [hg]; rfl⟩
    have hne : (Value.slice ax nx cx).ownBlock ≠ some gS := fun e => hXS (e.trans hgS.symm) gS hgS
    have haS : aS = some ⟨gS, 0, none⟩ := by
      obtain ⟨g, hg, _⟩ := hS.set (k := 0) (by rw [sixL_len]; omega) 0
      rw [hg] at hgS ⊢
      simp only [Value.ownBlock, Option.some.injEq] at hgS
      rw [hgS]
    have hlt0 := World.ownsRow.lt hS gS hgS
    subst haS
    obtain ⟨N, hN⟩ : ∃ N, wn * hn = N := ⟨_, rfl⟩
    have HN := Lib.hid hN
    rw [hN] at h36 h1w hXl hS hD
    have hnS : nS = N := by obtain ⟨a9, c9, e9⟩ := hS.form; cases e9; exact sixL_len N
    have hnx : nx = N := by obtain ⟨a9, c9, e9⟩ := hX.form; cases e9; exact hXl
    subst hnS
    have hS1 : IntsN W.heap.size y.w (.slice (some ⟨gS, 0, none⟩) nS cS) (lessL nS X 0) := by rw [lessL_zero]; exact hS.later y
    obtain ⟨V0, hV0⟩ : ∃ V0 : Later W, V0.w = y.w := ⟨x.step y, rfl⟩
    have hXN := hX.mono x.size
    rw [← hV0] at hS1 hXN ⊢
    have hF := Lib.hid (fun (V : World) (v : Value) (hV : Ints V v (lessL nS X nS)) => FlattenOf_calls wn hn v (lessL nS X nS) hs V hV (by rw [lessL_len, HN.out]) (by have h9 := less_low hH; rw [HN.out] at h9; exact h9))
    clear hV0 hXS hSI hS hU hN hgS hX y
    subst hnx
    go_wp2
    go_loopw [9] (fun i wr => ∃ (k : Nat) (V : Later W), wr = V.w ∧ k ≤ nx ∧ i = .int .i64 k ∧ IntsN W.heap.size V.w (.slice (some ⟨gS, 0, none⟩) nx cS) (lessL nx X k) ∧ IntsN W.heap.size V.w (.slice ax nx cx) X) (fun i _ => nx - (intOf i).toNat)
    case atStart => exact ⟨0, V0, rfl, Nat.zero_le _, rfl, hS1, hXN⟩
    case round =>
      obtain ⟨k, V, rfl, hk, rfl, hSk, hXk⟩ := hrel
      clear hS1 hXN
      by_cases hlt : k < nx
      · have hkN : k < wn * hn := by rw [HN.out]; exact hlt
        obtain ⟨g0, e0, j1, hz2, hgs, hnc, fG, gG, j2, j3⟩ := hSk.set (k := k) (by rw [lessL_len]; exact hlt) 0
        cases e0
        obtain ⟨bx, ox, cx', e, hcx, hbx, hgx⟩ := (hXk.ints (by omega)).at (k := k) (by omega)
        rw [hXl] at e
        cases e
        have gX := hgx k (by rw [hXl]; exact hlt)
        rw [nth_ofL] at gX
        rw [nth_ofL, ofL_lessL _ _ _ hlt, if_neg (Nat.lt_irrefl _)] at gG
        have hx := hrg.out k hkN
        have e1 : IntKind.i64.wrap (6 - ofL X k) = 6 - ofL X k := IntWalk.i64_in _ (by omega)
        clear hx hgx hcx hkN
        have HXL := Lib.hid hXl
        clear hXl
        clear j1 j2 j3
        go_wp2
        refine Mix.region_mixL (Mix.kinds [] [] [10]) (by kernel_rfl) (by kernel_rfl) ?_
        repeat ((with_reducible refine Mix.atCons ?_); first | refine Mix.skipU (by rfl) rfl (by rfl) ?_ | (refine Mix.val rfl rfl (by rfl) (fun K hK => ?_); go_big_quiet_op; refine hK _ ?_; clear hK K))
        refine Mix.last rfl (by rfl) (fun x1 K hK => ?_)
        have hS2 := hSk.later x1
        obtain ⟨g1, e2, j1, j2, hgs1, j3, f1, g1', hst, hgr⟩ := hS2.set (k := k) (by rw [lessL_len]; exact hlt) (6 - ofL X k)
        cases e2
        rw [lessL_set _ _ hlt] at hst
        have hX3 := (hXk.later x1).kept hgr (.inr hne)
        have HST := Lib.hid hst
        have HX3 := Lib.hid hX3
        clear gG gX fG hgs hgr j1 j2 j3 hst hX3 hS2 hSk
        go_wp2_with fail
        refine Mix.done (fun y => ?_)
        clear f1 g1'
        have hB3 := (V.step x1).le.setCell (p := ⟨gS, k, none⟩) hlt0.1 (.int .i64 (6 - ofL X k))
        rw [Later.step_w] at hB3
        go_wp2
        go_roundw
        case rel => exact ⟨k + 1, ⟨y.w, hB3.trans (y.le.mono hB3.size)⟩, rfl, by omega, by go_num, HST.out.later y, HX3.out.later y⟩
        case measure => simp [intOf]; omega
      · obtain rfl : k = nx := by omega
        have hSI := hSk.ints (by rw [lessL_len]; omega)
        have HD2 := Lib.hid (fun (X2 U2 : List Int) (h9 : Ham wn hn (lessL k X k) X2 U2) => (show neutF wn hn = X2 by rw [neutF, hD.out, h9.eq]))
        go_wp2_with fail
        refine (hF.out _ _ hSI).mono ?_
        rintro e w' ⟨xv, uv, X2, U2, y, rfl, rfl, hX2, hU2, hH2⟩
        obtain ⟨ax2, nx2, cx2, rfl⟩ := hX2.form'
        obtain ⟨au2, nu2, cu2, rfl⟩ := hU2.form'
        go_wp2
        go_ret2
        refine ⟨_, V.step y, ret_le hE.out.symm, rfl, ?_⟩
        rw [hL.out, HD2.out X2 U2 hH2]
        exact hX2.ints (by rw [hH2.run.2.2.1, HN.out]; omega)

end Go.Proofs.Ytbjmfhlkmklmmaa

/-  slices.Repeat of one number. -/
namespace Go.Proofs.Ytbjmfhlkmklmmaa
open Go.RowKit
theorem cases37 {N : Nat} (h : N ≤ 36) : N = 0 ∨ N = 1 ∨ N = 2 ∨ N = 3 ∨ N = 4 ∨ N = 5 ∨ N = 6 ∨ N = 7 ∨ N = 8 ∨ N = 9 ∨ N = 10 ∨ N = 11 ∨ N = 12 ∨ N = 13 ∨ N = 14 ∨ N = 15 ∨ N = 16 ∨ N = 17 ∨ N = 18 ∨ N = 19 ∨ N = 20 ∨ N = 21 ∨ N = 22 ∨ N = 23 ∨ N = 24 ∨ N = 25 ∨ N = 26 ∨ N = 27 ∨ N = 28 ∨ N = 29 ∨ N = 30 ∨ N = 31 ∨ N = 32 ∨ N = 33 ∨ N = 34 ∨ N = 35 ∨ N = 36 := by omega
set_option maxRecDepth 100000 in
set_option maxHeartbeats 2000000 in
theorem Mul64_calls (N : Nat) (hN : N ≤ 36) (W : World) :
    Calls Try.prog 79 #[.int .u64 1, .int .u64 N] W fun e W' => e = .returned (.tuple #[.int .u64 0, .int .u64 N]) ∧ W' = W := by
  go_enter Try.func79, Try.ntmps79
  go_wp2
  go_ret2
  refine ⟨?_, rfl⟩
  rcases cases37 hN with rfl | rfl | rfl | rfl | rfl | rfl | rfl | rfl | rfl | rfl | rfl | rfl | rfl | rfl | rfl | rfl | rfl | rfl | rfl | rfl | rfl | rfl | rfl | rfl | rfl | rfl | rfl | rfl | rfl | rfl | rfl | rfl | rfl | rfl | rfl | rfl | rfl <;> kernel_rfl
set_option maxHeartbeats 400000 in
theorem Mul_calls (N : Nat) (hN : N ≤ 36) (W : World) :
    Calls Try.prog 72 #[.int .u64 1, .int .u64 N] W fun e W' => e = .returned (.tuple #[.int .u64 0, .int .u64 N]) ∧ W' = W := by
  go_enter Try.func72, Try.ntmps72
  go_wp2_with (go_at_call 79; refine (Mul64_calls N hN _).mono ?_; rintro e w' ⟨rfl, rfl⟩)
  go_ret2
  exact ⟨rfl, rfl⟩
/-- N numbers, of which the first n are 6 -/
def rowR (n N : Nat) : List Value := List.replicate n (.int .i64 6) ++ List.replicate (N - n) (.int .i64 0)
theorem rowR_len {n N : Nat} (h : n ≤ N) : (rowR n N).length = N := by simp [rowR]; omega
theorem rowR_step {n N m : Nat} : (rowR n N).take n ++ List.replicate m (Value.int .i64 6) ++ (rowR n N).drop (n + m) = rowR (n + m) N := by
  rw [rowR, rowR, List.take_left' (List.length_replicate ..), List.drop_append, List.drop_of_length_le (by rw [List.length_replicate]; omega), List.nil_append, List.length_replicate, List.drop_replicate, List.replicate_append_replicate, Nat.add_sub_cancel_left, Nat.sub_sub]
theorem copy_six (w : World) (g n N m : Nat) (a : Addr) (dc sl sc : Nat) (ty : TypeId) (hg : w.heap[g]? = some (.cells (rowR n N).toArray 2 (0, 0))) (hn : n + m ≤ N) (hm : m = Nat.min sl (N - n)) (ha : ∀ j, j < m → w.cell? (a.add j) = some (.int .i64 6)) :
    (Builtin.copy_ #[22, 22] ty #[.slice (some ⟨g, n, none⟩) (N - n) dc, .slice (some a) sl sc]).run Try.prog w = .ok (goInt m) (w.setRow g (rowR (n + m) N).toArray) := by
  have hr := run_copy_row (P := Try.prog) w 22 22 ty 2 g n (N - n) dc a sl sc _ _ (List.replicate m (Value.int .i64 6)) Try.underlying22 (by kernel_rfl) hg (by rw [List.length_replicate]; exact hm)
    (fun j v hj => by
      have hjl := (List.getElem?_eq_some_iff.1 hj).1
      rw [List.length_replicate] at hjl
      rw [List.getElem?_replicate, if_pos hjl] at hj
      cases hj
      exact ha j hjl) (by rw [List.length_replicate, List.size_toArray, rowR_len (by omega)]; exact hn) (fun v hv => by rw [List.eq_of_mem_replicate hv]; rfl)
  rw [List.length_replicate] at hr
  rw [hr]
  show Result.ok _ (w.setRow g ((rowR n N).take n ++ List.replicate m (Value.int .i64 6) ++ (rowR n N).drop (n + m)).toArray) = _
  rw [rowR_step]
theorem rowR_heap {w : World} {g n N m : Nat} (hg : w.heap[g]? = some (.cells (rowR n N).toArray 2 (0, 0))) : (w.setRow g (rowR m N).toArray).heap[g]? = some (.cells (rowR m N).toArray 2 (0, 0)) := setRow_heap w g _ _ _ _ hg
theorem rowR_cell {w : World} {g n N : Nat} (hg : w.heap[g]? = some (.cells (rowR n N).toArray 2 (0, 0))) {j : Nat} (hj : j < n) : w.cell? ⟨g, j, none⟩ = some (.int .i64 6) := by
  simp only [World.cell?, hg]
  rw [List.getElem?_toArray, rowR, List.getElem?_append_left (by rw [List.length_replicate]; exact hj), List.getElem?_replicate, if_pos hj]
  rfl
theorem below_setRow {W w : World} {lo g : Nat} (hB : Below lo W w) (hlo : lo ≤ g) (cs : Array Value) : Below lo W (w.setRow g cs) :=
  hB.trans ⟨rfl, rfl, rfl, by simp [World.setRow], fun k hk => setRow_other w g k _ (by omega)⟩
theorem exec_to {ar : Option Addr} {n c K : Nat} {o : Oper} {a : Act} {x y : Operand} (ho : o.op = .slice 22 x none (some y) none) (hx : a.eval x = .slice ar n c) (hy : a.eval y = .int .i64 K) (hK : K ≤ c) (w : World) : (execOp a.eval o).run Try.prog w = .ok (.value (.slice ar K c)) w := by
  have h : (Instr.sliceAt 22 (.slice ar n c) none (some (.int .i64 K)) none).run Try.prog w = .ok (.slice ar K c) w := by simp [go_sem, hK]
  simp only [execOp, ho, Sem.run_bind, Option.map_some, Option.map_none, hx, hy, h, Result.andThen_ok, Sem.run_pure]
theorem exec_from {g N K : Nat} {o : Oper} {a : Act} {x y : Operand} (ho : o.op = .slice 22 x (some y) none none) (hx : a.eval x = .slice (some ⟨g, 0, none⟩) N N) (hy : a.eval y = .int .i64 K) (hK : K < N) (w : World) : (execOp a.eval o).run Try.prog w = .ok (.value (.slice (some ⟨g, K, none⟩) (N - K) (N - K))) w := by
  have h : (Instr.sliceAt 22 (.slice (some ⟨g, 0, none⟩) N N) (some (.int .i64 K)) none none).run Try.prog w = .ok (.slice (some ⟨g, K, none⟩) (N - K) (N - K)) w := by
    have h1 : N ≠ K := by omega
    simp [go_sem, Nat.le_of_lt hK, h1]
  simp only [execOp, ho, Sem.run_bind, Option.map_some, Option.map_none, hx, hy, h, Result.andThen_ok, Sem.run_pure]
set_option maxRecDepth 100000 in
set_option maxHeartbeats 2000000 in
/-- so many sixes -/
theorem Repeat_calls (b N : Nat) (hN : N ≤ 36) (h1 : 1 ≤ N) (W : World) (hb : W.cell? ⟨b, 0, none⟩ = some (.int .i64 6)) :
    Calls Try.prog 64 #[.slice (some ⟨b, 0, none⟩) 1 1, .int .i64 N] W (GivesN (sixL N) W) := by
  have hm := Mul_calls N hN
  have e1 : IntKind.u64.wrap (N : Int) = N := by rw [IntKind.wrap]; simp [go_sem]; omega
  have e2 : IntKind.i64.wrap (N : Int) = N := IntWalk.i64_in _ (by omega)
  have hmk : ∀ (w' : World), (Instr.makeSlice 22 (.int .i64 (N : Int)) (.int .i64 (N : Int))).run Try.prog w' = .ok (.slice (some ⟨w'.heap.size, 0, none⟩) N N) (w'.alloc (.cells (madeCells #[.int .i64 0] N) 2)) :=
    fun w' => run_make_row' _ _ _ 8 Try.underlying22 (by kernel_rfl) rfl _ _ _ (by omega) (by omega) w'
  obtain ⟨g, hg⟩ : ∃ g, g = W.heap.size := ⟨_, rfl⟩
  obtain ⟨V, hV⟩ : ∃ V : World, V = W.alloc (.cells (madeCells #[.int .i64 0] N) 2) := ⟨_, rfl⟩
  have hVg : V.heap[g]? = some (.cells (rowR 0 N).toArray 2 (0, 0)) := by
    rw [hV, hg, World.alloc_heap_new]
    have : madeCells #[Value.int .i64 0] N = (rowR 0 N).toArray := by
      apply Array.toList_inj.1
      rw [toList_madeCells_one]; simp [rowR]
    rw [this]
  have hc1 := copy_six V g 0 N 1 ⟨b, 0, none⟩ N 1 1 3 hVg (by omega) (Nat.min_eq_left (by omega)).symm (fun j hj => by
    obtain rfl : j = 0 := by omega
    rw [hV]; exact ((Later.new W _).cell (World.block_lt_of_cell? W _ hb)).trans hb)
  have hrow := rowR_heap (m := 1) hVg
  rw [Nat.zero_add] at hc1
  rw [Nat.sub_zero] at hc1
  have hBV : Below W.heap.size W (V.setRow g (rowR 1 N).toArray) := below_setRow (by rw [hV]; exact (Later.new W _).le) (by omega) _
  rw [hV, hg] at hc1
  have HC := Lib.hid hc1
  have HV := Lib.hid hV
  have HG := Lib.hid hg
  have hgW : W.heap.size ≤ g := by omega
  clear hc1 hV hg
  go_enter Try.func64, Try.ntmps64
  go_wp2_with (go_at_call 72; refine (hm _).mono ?_; rintro e w' ⟨rfl, hw⟩; rw [hw]; clear hw w')
  rw [HC.out]
  rw [← HV.out, ← HG.out]
  obtain ⟨X, hX⟩ : ∃ X : Later W, X.w = V.setRow g (rowR 1 N).toArray := ⟨⟨_, hBV⟩, rfl⟩
  rw [← hX] at hrow ⊢
  clear hX hBV hVg HC HV HG V
  go_wp2
  go_loopw [8] (fun i wr => ∃ (n : Nat) (V : Later W), wr = V.w ∧ 1 ≤ n ∧ n ≤ N ∧ i = .int .i64 n ∧ V.w.heap[g]? = some (.cells (rowR n N).toArray 2 (0, 0))) (fun i _ => N - (intOf i).toNat)
  case atStart => exact ⟨1, X, rfl, Nat.le_refl _, h1, rfl, hrow⟩
  case round =>
    obtain ⟨n, V, rfl, hn1, hnN, rfl, hr⟩ := hrel
    clear hrow
    by_cases hlt : n < N
    · obtain ⟨m, hm'⟩ : ∃ m, m = Nat.min n (N - n) := ⟨_, rfl⟩
      have hm1 : 1 ≤ m := by rw [hm']; exact Nat.le_min.2 ⟨hn1, by omega⟩
      have hm2 : m ≤ N - n := by rw [hm']; exact Nat.min_le_right _ _
      have hm3 : m ≤ n := by rw [hm']; exact Nat.min_le_left _ _
      have e3 : IntKind.i64.wrap ((n : Int) + m) = ((n + m : Nat) : Int) := by rw [IntWalk.i64_in _ (by omega)]; omega
      have hr2 := Lib.hid hr
      have HM := Lib.hid hm'
      clear hr hm'
      go_wp2
      refine wp_region_any (by kernel_rfl) ?_
      refine wpAny_take (i := 0) (v := .int .i64 n) rfl (by kernel_rfl) (by kernel_rfl) (by kernel_rfl) (fun _ _ _ h => h) (.inl ⟨by rfl, fun w => by rfl⟩) ?_
      simp only [List.getElem_toArray, List.getElem_cons_succ, List.getElem_cons_zero, Act.put, List.setIfInBounds_toArray, List.set]
      refine wpAny_take (i := 1) (v := .slice (some ⟨g, 0, none⟩) N N) rfl (by kernel_rfl) (by kernel_rfl) (by kernel_rfl) (fun _ _ _ h => h) (.inl ⟨by rfl, fun w => by rfl⟩) ?_
      simp only [List.getElem_toArray, List.getElem_cons_succ, List.getElem_cons_zero, Act.put, List.setIfInBounds_toArray, List.set]
      refine wpAny_take (i := 2) (v := .int .i64 n) rfl (by kernel_rfl) (by kernel_rfl) (by kernel_rfl) (fun _ _ _ h => h) (.inl ⟨by rfl, fun w => by rfl⟩) ?_
      simp only [List.getElem_toArray, List.getElem_cons_succ, List.getElem_cons_zero, Act.put, List.setIfInBounds_toArray, List.set]
      refine wpAny_take (i := 3) (v := .slice (some ⟨g, n, none⟩) (N - n) (N - n)) rfl (by kernel_rfl) (by kernel_rfl) (by kernel_rfl) (fun _ _ _ h => h) (.inl ⟨by rfl, fun w => exec_from rfl rfl rfl hlt w⟩) ?_
      simp only [List.getElem_toArray, List.getElem_cons_succ, List.getElem_cons_zero, Act.put, List.setIfInBounds_toArray, List.set]
      refine wpAny_take (i := 4) (v := .slice (some ⟨g, 0, none⟩) N N) rfl (by kernel_rfl) (by kernel_rfl) (by kernel_rfl) (fun _ _ _ h => h) (.inl ⟨by rfl, fun w => by rfl⟩) ?_
      simp only [List.getElem_toArray, List.getElem_cons_succ, List.getElem_cons_zero, Act.put, List.setIfInBounds_toArray, List.set]
      refine wpAny_take (i := 5) (v := .int .i64 n) rfl (by kernel_rfl) (by kernel_rfl) (by kernel_rfl) (fun _ _ _ h => h) (.inl ⟨by rfl, fun w => by rfl⟩) ?_
      simp only [List.getElem_toArray, List.getElem_cons_succ, List.getElem_cons_zero, Act.put, List.setIfInBounds_toArray, List.set]
      refine wpAny_take (i := 6) (v := .slice (some ⟨g, 0, none⟩) n N) rfl (by kernel_rfl) (by kernel_rfl) (by kernel_rfl) (fun _ _ _ h => h) (.inl ⟨by rfl, fun w => exec_to rfl rfl rfl hnN w⟩) ?_
      simp only [List.getElem_toArray, List.getElem_cons_succ, List.getElem_cons_zero, Act.put, List.setIfInBounds_toArray, List.set]
      refine Mix.any_rest (W0 := V.w) (rem := [7, 8, 9]) (cls := Mix.kinds [] [] [7, 8, 9]) (by kernel_rfl) ⟨Later.draw _, rfl⟩ ?_
      show Mix.Good _ _ _ _ _ _ _ (Later.draw V.w).w
      refine Mix.glast _ rfl rfl (by rfl) (by decide) (fun x3 K3 hK3 => ?_)
      have hr3 : x3.w.heap[g]? = some (.cells (rowR n N).toArray 2 (0, 0)) := (((Later.draw V.w).step x3).le.block g (Array.getElem?_eq_some_iff.1 hr2.out).1).trans hr2.out
      have hcp := copy_six x3.w g n N m ⟨g, 0, none⟩ (N - n) n N 3 hr3 (by omega) HM.out (fun j hj => by rw [Addr.add_lit, Nat.zero_add]; exact rowR_cell hr3 (by omega))
      have hrow := rowR_heap (m := n + m) hr3
      have hB3 : Below W.heap.size W (x3.w.setRow g (rowR (n + m) N).toArray) := below_setRow ((V.step (Later.draw V.w)).step x3).le hgW _
      obtain ⟨Y, hY⟩ : ∃ Y : World, Y = x3.w.setRow g (rowR (n + m) N).toArray := ⟨_, rfl⟩
      rw [← hY] at hcp hrow hB3
      clear hY
      have HCP := Lib.hid hcp
      clear hcp
      go_wp2_with fail
      rw [HCP.out]
      go_wp2_with fail
      refine Mix.glast _ rfl rfl (by rfl) (by decide) (fun x4 K4 hK4 => ?_)
      go_wp2_with fail
      refine Mix.glast _ rfl rfl (by rfl) (by decide) (fun x5 K5 hK5 => ?_)
      go_wp2_with fail
      refine Mix.gdone (fun x6 => ?_)
      have HROW := Lib.hid hrow
      clear hrow hr3 HCP
      go_wp2
      go_roundw
      case rel => exact ⟨n + m, ((⟨Y, hB3⟩ : Later W).step x4).step (x5.step x6), rfl, by omega, by omega, by go_num, ((x4.step (x5.step x6)).le.block g (Array.getElem?_eq_some_iff.1 HROW.out).1).trans HROW.out⟩
      case measure => simp [intOf]; omega
    · obtain rfl : n = N := by omega
      have hfin := Lib.hid (show IntsN W.heap.size V.w (.slice (some ⟨g, 0, none⟩) n n) (sixL n) from ⟨by simp [sixL], .inr ⟨g, n, _, by rw [sixL_len], hgW, hr, by rw [sixL_len]; exact Nat.le_refl _, by simp only [maxLen]; omega, by simp [rowR], by simp [rowR, sixL]⟩⟩)
      clear hr
      go_wp2
      go_ret
      exact ⟨_, V, rfl, rfl, hfin.out⟩

end Go.Proofs.Ytbjmfhlkmklmmaa

/-  Neutral of the program. -/
namespace Go.Proofs.Ytbjmfhlkmklmmaa
open Go.RowKit

theorem pad_lessL {N : Nat} {X : List Int} (hX : X.length = N) : (pad fun j => if j < N then 6 - ofL X j else ofL X j) = pad (ofL (lessL N X N)) := pad_congr fun j _ => by
  by_cases h : j < N
  · rw [if_pos h, ofL_lessL _ _ _ h, if_pos h]
  · rw [if_neg h]
    have h1 : ofL X j = 0 := by simp [ofL, List.getElem?_eq_none (show X.length ≤ j by omega)]
    have h2 : ofL (lessL N X N) j = 0 := by simp [ofL, List.getElem?_eq_none (show (lessL N X N).length ≤ j by rw [lessL_len]; omega)]
    rw [h1, h2]
theorem Ham.blows36 {w h : Nat} (hs : sized w h) {d X U : List Int} (hm : Ham w h d X U) (hd : low w h d) (j : Nat) : -1000000 ≤ 0 + ofL U j ∧ 0 + ofL U j ≤ 1000000 := by
  by_cases h : j < w * h
  · have h1 := hm.run.pos j h
    have h2 := hm.run.bound hs (K := 29) (by omega) (fun i hi => by have := hd i hi; omega) j h
    omega
  · have h1 : ofL U j = 0 := by simp [ofL, List.getElem?_eq_none (show U.length ≤ j by rw [hm.run.2.1]; omega)]
    omega
set_option maxRecDepth 100000 in
set_option maxHeartbeats 4000000 in
theorem Neutral_calls (w h : Int) (W : World) :
    Calls Try.prog 38 #[.int .i64 w, .int .i64 h] W (GivesLE (neutL w h) (neutE w h) W) := by
  go_enter Try.func38, Try.ntmps38
  go_wp2_with fail
  have hI := Ints.lit W [w, h] (arr := #[.int .i64 w, .int .i64 h]) (n := 2) (b := W.heap.size) 2 rfl rfl rfl (by simp)
  refine (within_calls _ [w, h] 1 6 _ hI).mono ?_
  rintro e w' ⟨rfl, x, rfl⟩
  rw [sizeB_any]
  obtain ⟨q, hq⟩ : ∃ q : Later W, x.w = q.w := ⟨(Later.new _ _).step x, rfl⟩
  rw [hq]
  clear hq x hI
  cases hz : sizeB w h 6
  · have hE := Lib.hid (show neutE w h = 3 by rw [neutE, if_pos hz])
    have hL := Lib.hid (show neutL w h = [] by rw [neutL, if_neg (by rw [hE.out]; simp)])
    go_wp2
    go_ret2
    exact ⟨.slice none 0 0, q, ret_le hE.out.symm, rfl, by rw [hL.out]; exact Ints.nil _ _⟩
  · have hE := Lib.hid (show neutE w h = 0 by rw [neutE, if_neg (by rw [hz]; simp)])
    obtain ⟨wn, hn, rfl, rfl, hs⟩ := sizeB_nat hz
    have hL := Lib.hid (show neutL wn hn = neutF wn hn by rw [neutL, if_pos hE.out, Int.toNat_natCast, Int.toNat_natCast])
    have h36 : wn * hn ≤ 36 := Nat.mul_le_mul hs.2.1 hs.2.2.2
    have h1w : 1 ≤ wn * hn := Nat.mul_le_mul hs.1 hs.2.2.1
    clear hz
    obtain ⟨N, hN⟩ : ∃ N, wn * hn = N := ⟨_, rfl⟩
    have HN := Lib.hid hN
    have emul : IntKind.i64.wrap ((wn : Int) * (hn : Int)) = (N : Int) := by
      rw [show (wn : Int) * (hn : Int) = ((wn * hn : Nat) : Int) from (Int.natCast_mul _ _).symm, hN]; exact IntWalk.i64_in _ (by omega)
    rw [hN] at h36 h1w
    clear hN
    have b6 : (q.w.alloc (.cells #[.int .i64 6] 2)).cell? ⟨q.w.heap.size, 0, none⟩ = some (.int .i64 6) := (Boxed.new q.w _ _).cell
    go_wp2_with fail
    refine (Repeat_calls _ N h36 h1w _ b6).mono ?_
    rintro e w' ⟨lv, x, rfl, rfl, hS⟩
    obtain ⟨Z, hZ⟩ : ∃ Z : Later W, Z.w = x.w := ⟨(q.step (Later.new _ _)).step x, rfl⟩
    have hSI := hS.ints (by rw [sixL_len]; omega)
    obtain ⟨bs, os, ks, rfl, hks, hbs, hgs⟩ := hSI.at (k := 0) (by rw [sixL_len]; omega)
    rw [← hZ] at hSI hbs hgs ⊢
    have HGS := Lib.hid hgs
    rw [sixL_len] at hSI hks ⊢
    clear hZ hS b6 x emul hgs
    go_wp2_with fail
    refine (newBlock_calls wn hn _ (sixL N) Z.w hSI (by rw [sixL_len]; exact h36) (by rw [sixL_len]; exact h1w)).mono ?_
    rintro e w' ⟨b, x, rfl, rfl, hbz, hbk⟩
    have hbW : W.heap.size ≤ b := Nat.le_trans Z.size hbz
    have hbs2 : bs < b := Nat.lt_of_lt_of_le hbs hbz
    obtain ⟨Y, hY⟩ : ∃ Y : Later Z.w, Y.w = x.w := ⟨x, rfl⟩
    rw [← hY] at hbk ⊢
    clear hY x
    go_wp2_with fail
    refine (flatten_calls b wn hn _ (sixL N) (fun _ => 0) Y.w hbk hs (by rw [sixL_len, HN.out]) (by have := sixL_low wn hn; rw [HN.out] at this; exact this) (fun j hj => by omega)).mono ?_
    rintro e w' ⟨⟨v, rfl⟩, X, U, hH, hbk2, hbut⟩
    have hXl : X.length = N := by rw [hH.run.2.2.1, HN.out]
    have hD := Lib.hid (show neutD wn hn = lessL N X N by rw [neutD, HN.out, hH.eq])
    have hrg := Lib.hid (hH.range (by have := sixL_low wn hn; rw [HN.out] at this; exact this))
    have hbl := Lib.hid (fun j => hH.blows36 hs (by have := sixL_low wn hn; rw [HN.out] at this; exact this) j)
    have hll := Lib.hid (show low wn hn (lessL N X N) by have h9 := hH; rw [← HN.out] at h9 ⊢; exact less_low h9)
    have hbk3 : Blk w' b wn hn (.slice (some ⟨bs, os, none⟩) N ks) (pad fun j => if j < 0 then 6 - ofL X j else ofL X j) (pad fun j => 0 + ofL U j) := by
      rw [show (pad fun j => if j < 0 then 6 - ofL X j else ofL X j) = pad (ofL X) from pad_congr fun j _ => by rw [if_neg (Nat.not_lt_zero _)]]
      exact hbk2
    clear hbk hbk2 hH
    have hB0 : But Z.w.heap.size b Z.w w' := (But.below Y.le).trans (hbut.mono Y.size)
    clear hbut
    go_wp2
    go_loopw [28] (fun i wr => ∃ (k : Nat), k ≤ N ∧ i = .int .i64 k ∧ But Z.w.heap.size b Z.w wr ∧ Blk wr b wn hn (.slice (some ⟨bs, os, none⟩) N ks) (pad fun j => if j < k then 6 - ofL X j else ofL X j) (pad fun j => 0 + ofL U j)) (fun i _ => N - (intOf i).toNat)
    case atStart => exact ⟨0, Nat.zero_le _, rfl, hB0, hbk3⟩
    case round =>
      obtain ⟨k, hk, rfl, hB, hbk⟩ := hrel
      clear hbk3 hB0
      by_cases hlt : k < N
      · have hk36 : k < 36 := by omega
        have hkN : k < wn * hn := by rw [HN.out]; exact hlt
        have g1 := (World.cell?_of_block (show wr.heap[bs]? = Z.w.heap[bs]? from hB.block bs hbs (by omega))).trans (HGS.out k (by rw [sixL_len]; exact hlt))
        rw [nth_ofL, sixL_at hlt] at g1
        have l1 := Nat.lt_of_lt_of_le hbs hB.size
        have g2 := hbk.cellN hk36
        rw [nth_ofL, ofL_pad _ hk36, if_neg (Nat.lt_irrefl _)] at g2
        have f2 := hbk.frozen (3 + k)
        have lb := hbk.lt
        have hx := hrg.out k hkN
        have e1 : IntKind.i64.wrap (6 - ofL X k) = 6 - ofL X k := IntWalk.i64_in _ (by omega)
        clear hx hkN
        go_wp2
        refine Mix.region_mixL (Mix.kinds [] [] [16]) (by kernel_rfl) (by kernel_rfl) ?_
        repeat ((with_reducible refine Mix.atCons ?_); first | refine Mix.skipU (by rfl) rfl (by rfl) ?_ | (refine Mix.val rfl rfl (by rfl) (fun K hK => ?_); go_big_quiet_op; refine hK _ ?_; clear hK K))
        refine Mix.last rfl (by rfl) (fun x1 K hK => ?_)
        have hbx := hbk.later x1
        have g3 := hbx.cellN hk36
        have f3 := hbx.frozen (3 + k)
        have hst := hbx.setN hk36 (6 - ofL X k)
        rw [show (pad fun j => if j < k then 6 - ofL X j else ofL X j).set k (6 - ofL X k) = pad (fun j => if j < k + 1 then 6 - ofL X j else ofL X j) from ofL_ext (by rw [List.length_set, pad_len, pad_len]) fun j hj => by
          rw [List.length_set, pad_len] at hj
          rw [ofL_set _ _ _ _ (by rw [pad_len]; exact hk36), ofL_pad _ hj, ofL_pad _ hj]
          by_cases e : j = k
          · subst e; rw [if_pos rfl, if_pos (Nat.lt_succ_self _)]
          · rw [if_neg e]
            by_cases e2 : j < k
            · rw [if_pos e2, if_pos (by omega)]
            · rw [if_neg e2, if_neg (by omega)]] at hst
        have HST := Lib.hid hst
        have HB3 := Lib.hid (show But Z.w.heap.size b Z.w (x1.w.setCell ⟨b, 3 + k, none⟩ (.int .i64 (6 - ofL X k))) from (hB.trans (But.below (x1.le.mono hB.size))).set _ _)
        clear g2 f2 lb g1 l1 hbx hst hbk
        go_wp2_with fail
        refine Mix.done (fun y => ?_)
        clear g3 f3
        go_wp2
        go_roundw
        case rel => exact ⟨k + 1, by omega, by go_num, HB3.out.trans (But.below (y.le.mono HB3.out.size)), HST.out.later y⟩
        case measure => simp [intOf]; omega
      · obtain rfl : k = N := by omega
        rw [pad_lessL hXl] at hbk
        go_wp2_with fail
        refine (flatten_calls b wn hn _ (lessL k X k) (fun j => 0 + ofL U j) _ hbk hs (by rw [lessL_len, HN.out]) hll.out (fun j _ => hbl.out j)).mono ?_
        rintro e w' ⟨⟨v, rfl⟩, X2, U2, hH2, hbk2, hbut⟩
        have hXl2 : X2.length = wn * hn := hH2.run.2.2.1
        have hX2 := Lib.hid (show neutF wn hn = X2 by rw [neutF, hD.out, hH2.eq])
        obtain ⟨V2, hV2⟩ : ∃ V2 : Later W, w' = V2.w := ⟨⟨w', Z.le.trans ((hB.trans (hbut.mono hB.size)).under hbW Z.size)⟩, rfl⟩
        rw [hV2] at hbk2 ⊢
        have hrn := hbk2.rangeN
        have lb2 := hbk2.lt
        clear hV2 hbut hbk
        go_wp2_with ((with_reducible show wpList _ _ _ (⟨some 54, _, _, _, _, _⟩ :: _) _ _); refine wpList_load_dents rfl _ rfl b 3 rfl (pad (ofL X2)) (pad_len _) hrn ?_)
        refine (list_calls b wn hn _ _ _ _ _ hbk2 (pad_len _) (by rw [HN.out]; exact h36)).mono ?_
        rintro e w' ⟨lv, y, rfl, rfl, hR⟩
        rw [take_pad hXl2 (by rw [HN.out]; exact h36)] at hR
        obtain ⟨al, nl, cl, rfl⟩ : ∃ a n c, lv = .slice a n c := by obtain ⟨a, c, e⟩ := hR.form; exact ⟨a, _, c, e⟩
        go_wp2
        go_ret2
        refine ⟨_, V2.step y, ret_le hE.out.symm, rfl, ?_⟩
        rw [hL.out, hX2.out]
        exact hR

end Go.Proofs.Ytbjmfhlkmklmmaa
