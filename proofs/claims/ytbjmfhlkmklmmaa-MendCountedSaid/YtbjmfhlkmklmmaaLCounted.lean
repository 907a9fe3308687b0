import Derived.Test.YtbjmfhlkmklmmaaLawF
import Derived.Test.YtbjmfhlkmklmmaaThD
import Derived.Test.YtbjmfhlkmklmmaaWkP
/-  MendCounted. -/
namespace Go.Proofs.Ytbjmfhlkmklmmaa
open Go.RowKit

theorem pow4_le {n : Nat} (h : n ≤ 6) : 4 ^ n ≤ 4096 := Nat.pow_le_pow_right (by decide) h
theorem mod14 (a : Nat) : 1 ≤ 1 + a % 4 ∧ 1 + a % 4 ≤ 4 := by omega
set_option maxRecDepth 100000 in
set_option maxHeartbeats 8000000 in
theorem LCounted_calls (a b : Nat) (ha : a ≤ 255) (hb : b ≤ 255) (W : World) :
    Calls Try.prog 16 #[.int .u8 (a : Int), .int .u8 (b : Int)] W (Gives (.bool true) W) := by
  obtain ⟨wn, hwn⟩ : ∃ w, 1 + a % 4 = w := ⟨_, rfl⟩
  obtain ⟨hn, hhn⟩ : ∃ h, 1 + b % 4 = h := ⟨_, rfl⟩
  have ew : (1 : Int) + (a : Int) % 4 = (wn : Int) := by omega
  have eh : (1 : Int) + (b : Int) % 4 = (hn : Int) := by omega
  have h1 : 1 ≤ wn ∧ wn ≤ 4 := by omega
  have h2 : 1 ≤ hn ∧ hn ≤ 4 := by omega
  clear hwn hhn
  obtain ⟨cE, cS, cM⟩ := cnt_sym h1 h2
  obtain ⟨cE2, _, _⟩ := cnt_sym h2 h1
  obtain ⟨N, hN⟩ : ∃ N, wn * hn = N := ⟨_, rfl⟩
  have hN16 : N ≤ 16 := by rw [← hN]; exact Nat.mul_le_mul h1.2 h2.2
  have eN : IntKind.i64.wrap ((wn : Int) * (hn : Int)) = (N : Int) := by rw [← Int.natCast_mul, hN]; exact IntWalk.i64_in _ (by omega)
  have hs : sized wn hn := ⟨h1.1, by omega, h2.1, by omega⟩
  obtain ⟨M, hM⟩ : ∃ M, cntV wn hn = M := ⟨_, rfl⟩
  rw [hM] at cS cM
  have HM := Lib.hid hM
  have HN := Lib.hid hN
  clear hM hN
  have CE := Lib.hid cE
  have CE2 := Lib.hid cE2
  have CS := Lib.hid cS
  have HS := Lib.hid hs
  have H12 := Lib.hid (And.intro h1 h2)
  clear cE cE2 cS hs
  go_enter Try.func16, Try.ntmps16
  go_wp2_with fail
  refine (Count_calls wn hn _).mono ?_
  rintro e w' ⟨rfl, y1, rfl⟩
  rw [HM.out, CE.out]
  go_wp2_with fail
  refine (Count_calls hn wn _).mono ?_
  rintro e w' ⟨rfl, y2, rfl⟩
  rw [CS.out, CE2.out]
  obtain ⟨Y, hY⟩ : ∃ Y : Later W, Y.w = y2.w := ⟨y1.step y2, rfl⟩
  rw [← hY]
  clear hY y1 y2 ew eh
  have hm1 : ¬ M < 1 := by omega
  by_cases h6 : 6 < N
  · go_wp2_with fail
    refine (Works_calls _).mono ?_
    rintro e w' ⟨rfl, y, rfl⟩
    go_wp2
    go_ret
    exact ⟨rfl, Y.step y, rfl⟩
  · go_wp2
    go_loopw [11, 12] (fun l c wr => ∃ (i A : Nat), wr = Y.w ∧ i ≤ N ∧ c = .int .i64 i ∧ l = .int .i64 A ∧ Hid (A = 4 ^ i)) (fun _ c _ => N - (intOf c).toNat)
    case atStart => exact ⟨0, 1, rfl, Nat.zero_le _, rfl, rfl, rfl⟩
    case round =>
      obtain ⟨i, A, rfl, hi, rfl, rfl, hA⟩ := hrel
      have hA4 : A ≤ 4096 := by rw [hA.out]; exact pow4_le (by omega)
      by_cases hlt : i < N
      · go_wp2
        go_roundw
        case rel => exact ⟨i + 1, 4 * A, by trivial, by omega, by go_num, by go_num, by unfold Hid; rw [hA.out, Nat.pow_succ]; omega⟩
        case measure => simp [intOf]; omega
      · obtain rfl : N = i := by omega
        go_wp2
        go_loopw [13, 14] (fun l c wr => ∃ (k Q : Nat) (V : Later Y.w), wr = V.w ∧ k ≤ A ∧ c = .int .i64 k ∧ l = .int .i64 Q ∧ Hid (Q = cntB wn hn k)) (fun _ c _ => A - (intOf c).toNat)
        case atStart => exact ⟨0, 0, Later.self _, rfl, Nat.zero_le _, rfl, rfl, rfl⟩
        case round =>
          obtain ⟨k, Q, V, rfl, hk, rfl, rfl, hQ⟩ := hrel
          by_cases hlk : k < A
          · have hQk : Q ≤ 4096 := by rw [hQ.out]; have := cntB_le wn hn k; omega
            obtain ⟨C, hC⟩ : ∃ C, C = V.w.heap.size := ⟨_, rfl⟩
            obtain ⟨V0, hV0⟩ : ∃ V0 : Later V.w, V0.w = V.w.alloc (.cells #[.int .i64 wn, .int .i64 hn, .slice none 0 0] 24) := ⟨Later.new _ _, rfl⟩
            have F0 : Fld V.w V0.w C 2 24 [.int .i64 wn, .int .i64 hn, .slice none 0 0] (.slice none 0 0) (digL k 0) :=
              ⟨V0.le, by rw [hV0, hC]; exact Lin.new _ _ [.int .i64 wn, .int .i64 hn, .slice none 0 0], rfl, IntsN.nil _ _, by simp [Value.ownBlock], Nat.le_of_eq hC.symm⟩
            go_wp2
            rw [← hV0, ← hC]
            clear hV0 hC
            go_loopw [16, 17] (fun l c wr => ∃ (i L : Nat) (v : Value) (V1 : Later V.w), wr = V1.w ∧ i ≤ N ∧ c = .int .i64 i ∧ l = .int .i64 L ∧ Hid (L = k / 4 ^ i) ∧ L ≤ 4096 ∧ Fld V.w V1.w C 2 24 [.int .i64 wn, .int .i64 hn, v] v (digL k i)) (fun _ c _ => N - (intOf c).toNat)
            case atStart => exact ⟨0, k, _, V0, rfl, Nat.zero_le _, rfl, rfl, by simp [Hid], by omega, F0⟩
            case round =>
              obtain ⟨i, L, v, V1, rfl, hi, rfl, rfl, hL, hL4, hF⟩ := hrel
              clear F0
              have c0 := hF.lin.cell (k := 0) rfl
              have c1 := hF.lin.cell (k := 1) rfl
              have c2 := hF.lin.cell (k := 2) rfl
              have cl := hF.lin.lt
              by_cases hlt2 : i < N
              · have hL2 : L % 4 = k / 4 ^ i % 4 := by rw [hL.out]
                obtain ⟨v2, q, hrun, hLq, hF2⟩ := hF.app ((L % 4 : Nat) : Int) (by rw [digL_len]; omega) 22
                rw [hL2, ← digL_snoc] at hF2
                obtain ⟨av2, nv2, cv2, rfl⟩ := hF2.own.form'
                have HF2 := Lib.hid hF2
                rw [Int.natCast_emod] at hrun
                have HR := Lib.hid hrun
                have qc2 := hLq.cell (k := 2) rfl
                have qf2 := hLq.frozen 2
                have qcl := hLq.lt
                have hdv := Nat.div_le_self L 4
                clear hF2 hrun hF hL2
                go_wp2_with ((with_reducible show wpList _ _ _ (⟨some 90, _, _, _, _, _⟩ :: _) _ _); refine Lib.wpList_append_run_sl _ rfl _ _ 22 rfl _ _ rfl rfl HR.out ?_)
                go_roundw
                case rel => exact ⟨i + 1, L / 4, _, ⟨_, HF2.out.le⟩, rfl, by omega, by go_num, by go_num, by unfold Hid; rw [hL.out, Nat.pow_succ, Nat.div_div_eq_div_mul], by omega, HF2.out⟩
                case measure => simp [intOf]; omega
              · obtain rfl : N = i := by omega
                have hI := hF.own.ints (by rw [digL_len]; omega)
                obtain ⟨av, nv, cv, rfl⟩ := hF.own.form'
                obtain ⟨e1, e2⟩ := dig_back (k := k) HS.out
                rw [HN.out] at e1 e2
                have E1 := Lib.hid e1
                have E2 := Lib.hid e2
                clear e1 e2 hF
                go_wp2_with fail
                refine (Back_calls wn hn _ (digL k N) _ hI).mono ?_
                rintro e w' ⟨rfl, y, rfl⟩
                rw [E1.out, E2.out]
                clear c0 c1 c2 cl hI
                cases hc : comesB wn hn k
                · go_wp2
                  go_roundw
                  case rel => exact ⟨k + 1, Q, (V.step V1).step y, rfl, by omega, by go_num, rfl, by unfold Hid; rw [cntB, hc, hQ.out]; rfl⟩
                  case measure => simp [intOf]; omega
                · go_wp2
                  go_roundw
                  case rel => exact ⟨k + 1, Q + 1, (V.step V1).step y, rfl, by omega, by go_num, by go_num, by unfold Hid; rw [cntB, hc, hQ.out]; rfl⟩
                  case measure => simp [intOf]; omega
          · obtain rfl : A = k := by omega
            have hQM : (Q : Int) = M := by
              rw [hQ.out, hA.out, ← HM.out, ← HN.out]
              exact cnt_all H12.out.1 H12.out.2 (by rw [HN.out]; omega)
            rw [hQM]
            go_wp2_with fail
            refine (Works_calls _).mono ?_
            rintro e w' ⟨rfl, y, rfl⟩
            go_wp2
            go_ret
            exact ⟨rfl, (Y.step V).step y, rfl⟩

theorem LCountedI_calls (m mo : Int) (h0 : 0 ≤ m) (hm : m ≤ 255) (h1 : 0 ≤ mo) (hmo : mo ≤ 255) (W : World) :
    Calls Try.prog 16 #[.int .u8 m, .int .u8 mo] W (Gives (.bool true) W) := by
  obtain ⟨k, rfl⟩ := Int.eq_ofNat_of_zero_le h0
  obtain ⟨l, rfl⟩ := Int.eq_ofNat_of_zero_le h1
  exact LCounted_calls k l (by omega) (by omega) W
end Go.Proofs.Ytbjmfhlkmklmmaa
