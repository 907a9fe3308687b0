import Derived.Test.YtpkgfkeekcgkcaaSeenT
import Derived.Test.YtpkgfkeekcgkcaaLwA
/-  Faults that neither reader has found: the statement's walk. -/
namespace Go.Proofs.Ytpkgfkeekcgkcaa
open Go.RowKit
set_option maxRecDepth 100000 in
set_option maxHeartbeats 8000000 in
theorem ProofSeen_calls (a o v nu de le : Nat) (ha : a ≤ 255) (hnu : nu ≤ 255) (hde : de ≤ 255) (hle : le ≤ 255) (W : World) :
    Calls Try.prog 15 #[.int .u8 a, .int .u64 o, .int .u64 v, .int .u8 nu, .int .u8 de, .int .u8 le] W (Gives (.bool true) W) := by
  have S : Ins W [] := Ins.nil _
  obtain ⟨n, hn⟩ : ∃ n, a % 64 = n := ⟨_, rfl⟩
  have hni : (a : Int) % 64 = (n : Int) := by omega
  have hn63 : n ≤ 63 := by omega
  clear hn
  go_enter Try.func15, Try.ntmps15
  go_wp2_with fail
  obtain ⟨B1, hb⟩ : ∃ b, b = W.heap.size := ⟨_, rfl⟩
  have hloB1 : W.heap.size ≤ B1 := by rw [hb]; exact Nat.le_refl _
  have l1 : Lin (W.alloc (.cells #[.int .i64 0, .int .i64 0, .int .i64 0] 76)) B1 76 [.int .i64 0, .int .i64 0, .int .i64 0] := by rw [hb]; exact Lin.new _ _ [.int .i64 0, .int .i64 0, .int .i64 0]
  replace S := S.later (Later.new _ (.cells #[.int .i64 0, .int .i64 0, .int .i64 0] 76))
  rw [Later.new_w] at S
  have hsz : (W.alloc (.cells #[.int .i64 0, .int .i64 0, .int .i64 0] 76)).heap.size = B1 + 1 := by rw [hb]; simp
  obtain ⟨Y2, hZ⟩ : ∃ Z : Later W, Z.w = W.alloc (.cells #[.int .i64 0, .int .i64 0, .int .i64 0] 76) := ⟨Later.new _ _, rfl⟩
  rw [← hZ] at S hsz l1 ⊢
  clear hZ
  rw [← hb]
  clear hb
  clear hsz
  go_loopw [15] (fun i0 wr => ∃ (k c0 c1 c2 : Nat) (u : Later W), wr = u.w ∧ k ≤ n ∧ i0 = .int .i64 k ∧ Hid (Cnt3 k c0 c1 c2) ∧ Lin u.w B1 76 [.int .i64 (c0 : Int), .int .i64 (c1 : Int), .int .i64 (c2 : Int)]) (fun i0 _ => n - (intOf i0).toNat)
  case atStart => exact ⟨0, 0, 0, 0, Y2, rfl, Nat.zero_le _, rfl, Lib.hid Cnt3.zero, l1⟩
  clear S l1
  obtain ⟨k, c0, c1, c2, u, rfl, hk, rfl, hC, hL⟩ := hrel
  by_cases hlt : k < n
  · obtain ⟨x, hx⟩ : ∃ x, bitU o k = x := ⟨_, rfl⟩
    obtain ⟨z, hz⟩ : ∃ x, bitU v k = x := ⟨_, rfl⟩
    have hb1 := bitU_and o k
    have hb2 := bitU_and v k
    have hx1 := bitU_le o k
    have hz1 := bitU_le v k
    rw [hx] at hb1 hx1
    rw [hz] at hb2 hz1
    obtain ⟨p, hp⟩ : ∃ p, x * z = p := ⟨_, rfl⟩
    have hpi : (x : Int) * (z : Int) = (p : Int) := by rw [← hp]; push_cast; rfl
    have hp1 : p ≤ 1 := by rw [← hp]; exact Nat.le_trans (Nat.mul_le_mul hx1 hz1) (by decide)
    have hc0 := hC.out.c
    have hc1 := hC.out.d
    have hc2 := hC.out.a
    have HN := Lib.hid (hC.out.step hx1 hz1)
    rw [hp] at HN
    clear hx hz hp
    go_wp2
    refine Mix.region_mixL (Mix.kinds [] [] []) (by kernel_rfl) (by kernel_rfl) ?_
    try go_frame
    repeat ((with_reducible refine Mix.atCons ?_); first | refine Mix.skipU (by rfl) rfl (by rfl) ?_ | (refine Mix.val rfl rfl (by rfl) (fun K hK => ?_); go_big_quiet_op; refine hK _ ?_; clear hK K) | simp only [hb1] | simp only [hb2] | (refine Mix.skip (by rfl) ?_; go_frame))
    refine Mix.done (fun w0 => ?_)
    replace hL := hL.later w0
    obtain ⟨u2, hu2⟩ : ∃ u2 : Later W, u2.w = w0.w := ⟨u.step w0, rfl⟩
    rw [← hu2] at hL ⊢
    clear hu2 w0
    have HW := Lib.hid (((u2.le.setCell (p := ⟨B1, 0, none⟩) hloB1 (.int .i64 ((c0 : Int) + x))).setCell (p := ⟨B1, 1, none⟩) hloB1 (.int .i64 ((c1 : Int) + z))).setCell (p := ⟨B1, 2, none⟩) hloB1 (.int .i64 ((c2 : Int) + p)))
    have HL := Lib.hid (((hL.set 0 (.int .i64 ((c0 : Int) + x))).set 1 (.int .i64 ((c1 : Int) + z))).set 2 (.int .i64 ((c2 : Int) + p)))
    have t0 := hL.cell (k := 0) rfl
    have t1' := hL.cell (k := 1) rfl
    have t2' := hL.cell (k := 2) rfl
    have f0 := hL.frozen 0
    have f1 := hL.frozen 1
    have f2 := hL.frozen 2
    have tl := hL.lt
    clear hL
    go_wp2
    go_roundw
    case rel => exact ⟨k + 1, c0 + x, c1 + z, c2 + p, ⟨_, HW.out⟩, rfl, by omega, by go_num, HN, by push_cast; exact HL.out⟩
    case measure => simp [intOf]; omega
  have hkn : k = n := by omega
  subst hkn
  have hC2 := hC.out
  obtain ⟨D, hD⟩ : ∃ D, 1 + de = D := ⟨_, rfl⟩
  obtain ⟨r, hr⟩ : ∃ r, nu % D = r := ⟨_, rfl⟩
  obtain ⟨P, hP⟩ : ∃ P, 1 + r = P := ⟨_, rfl⟩
  obtain ⟨q, hq⟩ : ∃ q, le % P = q := ⟨_, rfl⟩
  obtain ⟨Q, hQ⟩ : ∃ Q, P - q = Q := ⟨_, rfl⟩
  have hrD : r < D := by rw [← hr]; exact Nat.mod_lt _ (by omega)
  have hqP : q < P := by rw [← hq]; exact Nat.mod_lt _ (by omega)
  have iD : 1 + (de : Int) = (D : Int) := by omega
  have ir : (nu : Int) % (D : Int) = (r : Int) := by omega
  have iP : 1 + (r : Int) = (P : Int) := by omega
  have iq : (le : Int) % (P : Int) = (q : Int) := by omega
  have iQ : (P : Int) - (q : Int) = (Q : Int) := by omega
  clear hr hq
  obtain ⟨E, E2, H, H2, e1, e2, e3, e4, e5, e6, e7, e8⟩ := seen_two hC2 (by omega) (show D ≤ 256 by omega) (show 1 ≤ P ∧ P ≤ D by omega) (show 1 ≤ Q ∧ Q ≤ P by omega)
  have HE := Lib.hid (And.intro e1 (And.intro e2 (And.intro e3 e4)))
  clear e1 e2 e3 e4
  go_wp2
  have S : Ins u.w [] := fun p hp => absurd hp (by simp)
  obtain ⟨B3, hb⟩ : ∃ b, b = u.w.heap.size := ⟨_, rfl⟩
  have hloB3 : W.heap.size ≤ B3 := by rw [hb]; exact u.size
  have l3 : Lin (u.w.alloc (.cells #[.int .i64 (P : Int), .int .i64 (D : Int)] 55)) B3 55 [.int .i64 (P : Int), .int .i64 (D : Int)] := by rw [hb]; exact Lin.new _ _ [.int .i64 (P : Int), .int .i64 (D : Int)]
  replace S := S.later (Later.new _ (.cells #[.int .i64 (P : Int), .int .i64 (D : Int)] 55))
  rw [Later.new_w] at S
  replace hL := hL.later (Later.new _ (.cells #[.int .i64 (P : Int), .int .i64 (D : Int)] 55))
  rw [Later.new_w] at hL
  have hsz : (u.w.alloc (.cells #[.int .i64 (P : Int), .int .i64 (D : Int)] 55)).heap.size = B3 + 1 := by rw [hb]; simp
  obtain ⟨Y4, hZ⟩ : ∃ Z : Later W, Z.w = u.w.alloc (.cells #[.int .i64 (P : Int), .int .i64 (D : Int)] 55) := ⟨u.step (Later.new _ _), rfl⟩
  rw [← hZ] at S hsz hL l3 ⊢
  clear hZ
  rw [← hb]
  clear hb
  try rw [← hsz]
  clear hsz
  have qr_0 := l3.cell (k := 0) rfl
  have qr_1 := l3.cell (k := 1) rfl
  have qr_l := l3.lt
  refine Mix.region_mixL (Mix.kinds [11] [] [12]) (by kernel_rfl) (by kernel_rfl) ?_
  try go_frame
  repeat ((with_reducible refine Mix.atCons ?_); first | refine Mix.skipU (by rfl) rfl (by rfl) ?_ | (refine Mix.val rfl rfl (by rfl) (fun K hK => ?_); go_big_quiet_op; refine hK _ ?_; clear hK K) | simp only [ir] | simp only [iq] | simp only [iQ] | (refine Mix.skip (by rfl) ?_; go_frame))
  refine Mix.new rfl (by rfl) (fun b => .pointer (some ⟨b, 0, none⟩)) (.cells #[.int .i64 0, .int .i64 0] 55) (fun w => by simp [go_sem]) (fun T t1 hT hxT => ?_)
  try go_frame
  refine Mix.last rfl (by rfl) (fun x4 K hK => ?_)
  have k1 := (show Lin t1.w T 55 [.int .i64 0, .int .i64 0] from hxT).later x4
  have t0 := k1.cell (k := 0) rfl
  have t1' := k1.cell (k := 1) rfl
  have f0 := k1.frozen 0
  have f1 := k1.frozen 1
  have tl := k1.lt
  have HB := Lib.hid ((((t1.step x4).le).setCell (p := ⟨T, 0, none⟩) hT (.int .i64 (Q : Int))).setCell (p := ⟨T, 1, none⟩) hT (.int .i64 (D : Int)))
  have HK1 := Lib.hid ((k1.set 0 (.int .i64 (Q : Int))).set 1 (.int .i64 (D : Int)))
  clear k1 hxT
  go_wp2_with fail
  clear t0 t1' f0 f1 tl
  refine Mix.done (fun y => ?_)
  obtain ⟨V1, hV1⟩ : ∃ V1 : Later Y4.w, V1.w = y.w := ⟨⟨y.w, HB.out.trans (y.le.mono HB.out.size)⟩, rfl⟩
  have lT : Lin V1.w T 55 [.int .i64 (Q : Int), .int .i64 (D : Int)] := by rw [hV1]; exact HK1.out.later y
  rw [← hV1]
  clear hV1 HB HK1 hT y
  clear qr_0 qr_1 qr_l
  replace hL := hL.later V1
  replace l3 := l3.later V1
  replace S := S.later V1
  obtain ⟨Y5, hZ⟩ : ∃ Z : Later W, Z.w = V1.w := ⟨Y4.step (V1), rfl⟩
  rw [← hZ] at S hL l3 lT ⊢
  clear hZ
  have q0_0 := hL.cell (k := 0) rfl
  have q0_1 := hL.cell (k := 1) rfl
  have q0_2 := hL.cell (k := 2) rfl
  have q0_l := hL.lt
  have q1_0 := l3.cell (k := 0) rfl
  have q1_1 := l3.cell (k := 1) rfl
  have q1_l := l3.lt
  go_wp2_with fail
  clear q0_0 q0_1 q0_2 q0_l
  clear q1_0 q1_1 q1_l
  refine (Unseen_calls c0 c1 c2 P D _).mono ?_
  rintro e w' ⟨y, rfl, rfl⟩
  rw [HE.out.2.2.1, HE.out.1]
  replace hL := hL.later y
  replace l3 := l3.later y
  replace lT := lT.later y
  replace S := S.later y
  obtain ⟨Y6, hZ⟩ : ∃ Z : Later W, Z.w = y.w := ⟨Y5.step (y), rfl⟩
  rw [← hZ] at S hL l3 lT ⊢
  clear hZ
  clear y
  have q0_0 := hL.cell (k := 0) rfl
  have q0_1 := hL.cell (k := 1) rfl
  have q0_2 := hL.cell (k := 2) rfl
  have q0_l := hL.lt
  have q1_0 := lT.cell (k := 0) rfl
  have q1_1 := lT.cell (k := 1) rfl
  have q1_l := lT.lt
  go_wp2_with fail
  clear q0_0 q0_1 q0_2 q0_l
  clear q1_0 q1_1 q1_l
  obtain ⟨B7, hb⟩ : ∃ b, b = Y6.w.heap.size := ⟨_, rfl⟩
  have l7 : Lin (Y6.w.alloc (.cells #[.int .i64 0, .int .i64 H] 57)) B7 57 [.int .i64 0, .int .i64 H] := by rw [hb]; exact Lin.new _ _ [.int .i64 0, .int .i64 H]
  replace S := S.later (Later.new _ (.cells #[.int .i64 0, .int .i64 H] 57))
  rw [Later.new_w] at S
  replace hL := hL.later (Later.new _ (.cells #[.int .i64 0, .int .i64 H] 57))
  rw [Later.new_w] at hL
  replace l3 := l3.later (Later.new _ (.cells #[.int .i64 0, .int .i64 H] 57))
  rw [Later.new_w] at l3
  replace lT := lT.later (Later.new _ (.cells #[.int .i64 0, .int .i64 H] 57))
  rw [Later.new_w] at lT
  have hsz : (Y6.w.alloc (.cells #[.int .i64 0, .int .i64 H] 57)).heap.size = B7 + 1 := by rw [hb]; simp
  obtain ⟨Y8, hZ⟩ : ∃ Z : Later W, Z.w = Y6.w.alloc (.cells #[.int .i64 0, .int .i64 H] 57) := ⟨Y6.step (Later.new _ _), rfl⟩
  rw [← hZ] at S hsz hL l3 lT l7 ⊢
  clear hZ
  rw [← hb]
  clear hb
  try rw [← hsz]
  clear hsz
  refine (Unseen_calls c0 c1 c2 Q D _).mono ?_
  rintro e w' ⟨y, rfl, rfl⟩
  rw [HE.out.2.2.2, HE.out.2.1]
  replace hL := hL.later y
  replace l3 := l3.later y
  replace lT := lT.later y
  replace l7 := l7.later y
  replace S := S.later y
  obtain ⟨Y9, hZ⟩ : ∃ Z : Later W, Z.w = y.w := ⟨Y8.step (y), rfl⟩
  rw [← hZ] at S hL l3 lT l7 ⊢
  clear hZ
  clear y
  have hc0 := hC2.c
  have hc1 := hC2.d
  have hc2 := hC2.a
  have hc3 := hC2.e
  obtain ⟨P1, hP1⟩ : ∃ x, c0 * D = x := ⟨_, rfl⟩
  obtain ⟨P2, hP2⟩ : ∃ x, c1 * D = x := ⟨_, rfl⟩
  obtain ⟨N1, hN1⟩ : ∃ x, k * P = x := ⟨_, rfl⟩
  have i1 : (c0 : Int) * (D : Int) = (P1 : Int) := by rw [← hP1]; push_cast; rfl
  have i2 : (c1 : Int) * (D : Int) = (P2 : Int) := by rw [← hP2]; push_cast; rfl
  have i3 : (k : Int) * (P : Int) = (N1 : Int) := by rw [← hN1]; push_cast; rfl
  have b1 : P1 ≤ 64 * 256 := by rw [← hP1]; exact Nat.mul_le_mul (by omega) (by omega)
  have b2 : P2 ≤ 64 * 256 := by rw [← hP2]; exact Nat.mul_le_mul (by omega) (by omega)
  have b3 : N1 ≤ 64 * 256 := by rw [← hN1]; exact Nat.mul_le_mul (by omega) (by omega)
  rw [hP1, hP2, hN1] at e8
  obtain ⟨f1, i4⟩ : ∃ f : Nat, (c0 : Int) + (c1 : Int) = (f : Int) := ⟨c0 + c1, by push_cast; rfl⟩
  obtain ⟨f2, i5⟩ : ∃ f : Nat, (f1 : Int) - (c2 : Int) = (f : Int) := ⟨f1 - c2, by omega⟩
  obtain ⟨g, i6⟩ : ∃ f : Nat, (k : Int) - (f2 : Int) = (f : Int) := ⟨k - f2, by omega⟩
  have hg8 : (k : Int) - ((c0 : Int) + c1 - c2) = (g : Int) := by omega
  rw [hg8] at e8
  clear hP1 hP2 hN1 hC hC2 HE hg8 hlt hk
  by_cases g1 : P1 < N1
  rotate_left
  by_cases g2 : P2 < N1
  rotate_left
  · have d1 : decide (P1 < N1) = false := decide_eq_false g1
    have d2 : decide (P2 < N1) = false := decide_eq_false g2
    obtain ⟨rfl, hu⟩ := e8 (by omega) (by omega)
    obtain ⟨rfl, h0, h12⟩ := e7 rfl
    have d3 : decide (H < 0) = false := decide_eq_false (by omega)
    have d4 : decide (H2 < H) = false := decide_eq_false (by omega)
    have d5 : decide ((g : Int) ≤ H) = true := decide_eq_true hu
    clear g1 g2 e5 e6 e7 e8
    have q0_0 := hL.cell (k := 0) rfl
    have q0_1 := hL.cell (k := 1) rfl
    have q0_2 := hL.cell (k := 2) rfl
    have q0_l := hL.lt
    have q1_0 := l3.cell (k := 0) rfl
    have q1_1 := l3.cell (k := 1) rfl
    have q1_l := l3.lt
    have q2_0 := l7.cell (k := 0) rfl
    have q2_1 := l7.cell (k := 1) rfl
    have q2_l := l7.lt
    go_wp2_with fail
    clear q0_0 q0_1 q0_2 q0_l
    clear q1_0 q1_1 q1_l
    clear q2_0 q2_1 q2_l
    obtain ⟨B10, hb⟩ : ∃ b, b = Y9.w.heap.size := ⟨_, rfl⟩
    have l10 : Lin (Y9.w.alloc (.cells #[.int .i64 0, .int .i64 H2] 57)) B10 57 [.int .i64 0, .int .i64 H2] := by rw [hb]; exact Lin.new _ _ [.int .i64 0, .int .i64 H2]
    replace S := S.later (Later.new _ (.cells #[.int .i64 0, .int .i64 H2] 57))
    rw [Later.new_w] at S
    replace hL := hL.later (Later.new _ (.cells #[.int .i64 0, .int .i64 H2] 57))
    rw [Later.new_w] at hL
    replace l3 := l3.later (Later.new _ (.cells #[.int .i64 0, .int .i64 H2] 57))
    rw [Later.new_w] at l3
    replace lT := lT.later (Later.new _ (.cells #[.int .i64 0, .int .i64 H2] 57))
    rw [Later.new_w] at lT
    replace l7 := l7.later (Later.new _ (.cells #[.int .i64 0, .int .i64 H2] 57))
    rw [Later.new_w] at l7
    have hsz : (Y9.w.alloc (.cells #[.int .i64 0, .int .i64 H2] 57)).heap.size = B10 + 1 := by rw [hb]; simp
    obtain ⟨Y11, hZ⟩ : ∃ Z : Later W, Z.w = Y9.w.alloc (.cells #[.int .i64 0, .int .i64 H2] 57) := ⟨Y9.step (Later.new _ _), rfl⟩
    rw [← hZ] at S hsz hL l3 lT l7 l10 ⊢
    clear hZ
    rw [← hb]
    clear hb
    try rw [← hsz]
    clear hsz
    refine (Works_calls _).mono ?_
    rintro e w' ⟨rfl, y, rfl⟩
    go_wp2
    go_ret
    exact ⟨rfl, Y11.step (y), rfl⟩
  · have d1 : decide (P1 < N1) = true := decide_eq_true g1
    rcases e5 with rfl | rfl
    · obtain ⟨rfl, h0, h12⟩ := e7 rfl
      have d3 : decide (H < 0) = false := decide_eq_false (by omega)
      have d4 : decide (H2 < H) = false := decide_eq_false (by omega)
      clear e6 e7 e8 g1
      have q0_0 := hL.cell (k := 0) rfl
      have q0_1 := hL.cell (k := 1) rfl
      have q0_2 := hL.cell (k := 2) rfl
      have q0_l := hL.lt
      have q1_0 := l3.cell (k := 0) rfl
      have q1_1 := l3.cell (k := 1) rfl
      have q1_l := l3.lt
      have q2_0 := l7.cell (k := 0) rfl
      have q2_1 := l7.cell (k := 1) rfl
      have q2_l := l7.lt
      go_wp2_with fail
      clear q0_0 q0_1 q0_2 q0_l
      clear q1_0 q1_1 q1_l
      clear q2_0 q2_1 q2_l
      obtain ⟨B10, hb⟩ : ∃ b, b = Y9.w.heap.size := ⟨_, rfl⟩
      have l10 : Lin (Y9.w.alloc (.cells #[.int .i64 0, .int .i64 H2] 57)) B10 57 [.int .i64 0, .int .i64 H2] := by rw [hb]; exact Lin.new _ _ [.int .i64 0, .int .i64 H2]
      replace S := S.later (Later.new _ (.cells #[.int .i64 0, .int .i64 H2] 57))
      rw [Later.new_w] at S
      replace hL := hL.later (Later.new _ (.cells #[.int .i64 0, .int .i64 H2] 57))
      rw [Later.new_w] at hL
      replace l3 := l3.later (Later.new _ (.cells #[.int .i64 0, .int .i64 H2] 57))
      rw [Later.new_w] at l3
      replace lT := lT.later (Later.new _ (.cells #[.int .i64 0, .int .i64 H2] 57))
      rw [Later.new_w] at lT
      replace l7 := l7.later (Later.new _ (.cells #[.int .i64 0, .int .i64 H2] 57))
      rw [Later.new_w] at l7
      have hsz : (Y9.w.alloc (.cells #[.int .i64 0, .int .i64 H2] 57)).heap.size = B10 + 1 := by rw [hb]; simp
      obtain ⟨Y11, hZ⟩ : ∃ Z : Later W, Z.w = Y9.w.alloc (.cells #[.int .i64 0, .int .i64 H2] 57) := ⟨Y9.step (Later.new _ _), rfl⟩
      rw [← hZ] at S hsz hL l3 lT l7 l10 ⊢
      clear hZ
      rw [← hb]
      clear hb
      try rw [← hsz]
      clear hsz
      refine (Works_calls _).mono ?_
      rintro e w' ⟨rfl, y, rfl⟩
      go_wp2
      go_ret
      exact ⟨rfl, Y11.step (y), rfl⟩
    clear e7 e8 g1
    rcases e6 with rfl | rfl
    · have q0_0 := hL.cell (k := 0) rfl
      have q0_1 := hL.cell (k := 1) rfl
      have q0_2 := hL.cell (k := 2) rfl
      have q0_l := hL.lt
      have q1_0 := l3.cell (k := 0) rfl
      have q1_1 := l3.cell (k := 1) rfl
      have q1_l := l3.lt
      have q2_0 := l7.cell (k := 0) rfl
      have q2_1 := l7.cell (k := 1) rfl
      have q2_l := l7.lt
      go_wp2_with fail
      clear q0_0 q0_1 q0_2 q0_l
      clear q1_0 q1_1 q1_l
      clear q2_0 q2_1 q2_l
      obtain ⟨B10, hb⟩ : ∃ b, b = Y9.w.heap.size := ⟨_, rfl⟩
      have l10 : Lin (Y9.w.alloc (.cells #[.int .i64 0, .int .i64 H2] 57)) B10 57 [.int .i64 0, .int .i64 H2] := by rw [hb]; exact Lin.new _ _ [.int .i64 0, .int .i64 H2]
      replace S := S.later (Later.new _ (.cells #[.int .i64 0, .int .i64 H2] 57))
      rw [Later.new_w] at S
      replace hL := hL.later (Later.new _ (.cells #[.int .i64 0, .int .i64 H2] 57))
      rw [Later.new_w] at hL
      replace l3 := l3.later (Later.new _ (.cells #[.int .i64 0, .int .i64 H2] 57))
      rw [Later.new_w] at l3
      replace lT := lT.later (Later.new _ (.cells #[.int .i64 0, .int .i64 H2] 57))
      rw [Later.new_w] at lT
      replace l7 := l7.later (Later.new _ (.cells #[.int .i64 0, .int .i64 H2] 57))
      rw [Later.new_w] at l7
      have hsz : (Y9.w.alloc (.cells #[.int .i64 0, .int .i64 H2] 57)).heap.size = B10 + 1 := by rw [hb]; simp
      obtain ⟨Y11, hZ⟩ : ∃ Z : Later W, Z.w = Y9.w.alloc (.cells #[.int .i64 0, .int .i64 H2] 57) := ⟨Y9.step (Later.new _ _), rfl⟩
      rw [← hZ] at S hsz hL l3 lT l7 l10 ⊢
      clear hZ
      rw [← hb]
      clear hb
      try rw [← hsz]
      clear hsz
      refine (Works_calls _).mono ?_
      rintro e w' ⟨rfl, y, rfl⟩
      go_wp2
      go_ret
      exact ⟨rfl, Y11.step (y), rfl⟩
    · have q0_0 := hL.cell (k := 0) rfl
      have q0_1 := hL.cell (k := 1) rfl
      have q0_2 := hL.cell (k := 2) rfl
      have q0_l := hL.lt
      have q1_0 := l3.cell (k := 0) rfl
      have q1_1 := l3.cell (k := 1) rfl
      have q1_l := l3.lt
      have q2_0 := l7.cell (k := 0) rfl
      have q2_1 := l7.cell (k := 1) rfl
      have q2_l := l7.lt
      go_wp2_with fail
      clear q0_0 q0_1 q0_2 q0_l
      clear q1_0 q1_1 q1_l
      clear q2_0 q2_1 q2_l
      obtain ⟨B10, hb⟩ : ∃ b, b = Y9.w.heap.size := ⟨_, rfl⟩
      have l10 : Lin (Y9.w.alloc (.cells #[.int .i64 0, .int .i64 H2] 57)) B10 57 [.int .i64 0, .int .i64 H2] := by rw [hb]; exact Lin.new _ _ [.int .i64 0, .int .i64 H2]
      replace S := S.later (Later.new _ (.cells #[.int .i64 0, .int .i64 H2] 57))
      rw [Later.new_w] at S
      replace hL := hL.later (Later.new _ (.cells #[.int .i64 0, .int .i64 H2] 57))
      rw [Later.new_w] at hL
      replace l3 := l3.later (Later.new _ (.cells #[.int .i64 0, .int .i64 H2] 57))
      rw [Later.new_w] at l3
      replace lT := lT.later (Later.new _ (.cells #[.int .i64 0, .int .i64 H2] 57))
      rw [Later.new_w] at lT
      replace l7 := l7.later (Later.new _ (.cells #[.int .i64 0, .int .i64 H2] 57))
      rw [Later.new_w] at l7
      have hsz : (Y9.w.alloc (.cells #[.int .i64 0, .int .i64 H2] 57)).heap.size = B10 + 1 := by rw [hb]; simp
      obtain ⟨Y11, hZ⟩ : ∃ Z : Later W, Z.w = Y9.w.alloc (.cells #[.int .i64 0, .int .i64 H2] 57) := ⟨Y9.step (Later.new _ _), rfl⟩
      rw [← hZ] at S hsz hL l3 lT l7 l10 ⊢
      clear hZ
      rw [← hb]
      clear hb
      try rw [← hsz]
      clear hsz
      refine (Works_calls _).mono ?_
      rintro e w' ⟨rfl, y, rfl⟩
      go_wp2
      go_ret
      exact ⟨rfl, Y11.step (y), rfl⟩
  · have d1 : decide (P1 < N1) = false := decide_eq_false g1
    have d2 : decide (P2 < N1) = true := decide_eq_true g2
    rcases e5 with rfl | rfl
    · obtain ⟨rfl, h0, h12⟩ := e7 rfl
      have d3 : decide (H < 0) = false := decide_eq_false (by omega)
      have d4 : decide (H2 < H) = false := decide_eq_false (by omega)
      clear e6 e7 e8 g1 g2
      have q0_0 := hL.cell (k := 0) rfl
      have q0_1 := hL.cell (k := 1) rfl
      have q0_2 := hL.cell (k := 2) rfl
      have q0_l := hL.lt
      have q1_0 := l3.cell (k := 0) rfl
      have q1_1 := l3.cell (k := 1) rfl
      have q1_l := l3.lt
      have q2_0 := l7.cell (k := 0) rfl
      have q2_1 := l7.cell (k := 1) rfl
      have q2_l := l7.lt
      go_wp2_with fail
      clear q0_0 q0_1 q0_2 q0_l
      clear q1_0 q1_1 q1_l
      clear q2_0 q2_1 q2_l
      obtain ⟨B10, hb⟩ : ∃ b, b = Y9.w.heap.size := ⟨_, rfl⟩
      have l10 : Lin (Y9.w.alloc (.cells #[.int .i64 0, .int .i64 H2] 57)) B10 57 [.int .i64 0, .int .i64 H2] := by rw [hb]; exact Lin.new _ _ [.int .i64 0, .int .i64 H2]
      replace S := S.later (Later.new _ (.cells #[.int .i64 0, .int .i64 H2] 57))
      rw [Later.new_w] at S
      replace hL := hL.later (Later.new _ (.cells #[.int .i64 0, .int .i64 H2] 57))
      rw [Later.new_w] at hL
      replace l3 := l3.later (Later.new _ (.cells #[.int .i64 0, .int .i64 H2] 57))
      rw [Later.new_w] at l3
      replace lT := lT.later (Later.new _ (.cells #[.int .i64 0, .int .i64 H2] 57))
      rw [Later.new_w] at lT
      replace l7 := l7.later (Later.new _ (.cells #[.int .i64 0, .int .i64 H2] 57))
      rw [Later.new_w] at l7
      have hsz : (Y9.w.alloc (.cells #[.int .i64 0, .int .i64 H2] 57)).heap.size = B10 + 1 := by rw [hb]; simp
      obtain ⟨Y11, hZ⟩ : ∃ Z : Later W, Z.w = Y9.w.alloc (.cells #[.int .i64 0, .int .i64 H2] 57) := ⟨Y9.step (Later.new _ _), rfl⟩
      rw [← hZ] at S hsz hL l3 lT l7 l10 ⊢
      clear hZ
      rw [← hb]
      clear hb
      try rw [← hsz]
      clear hsz
      refine (Works_calls _).mono ?_
      rintro e w' ⟨rfl, y, rfl⟩
      go_wp2
      go_ret
      exact ⟨rfl, Y11.step (y), rfl⟩
    clear e7 e8 g1 g2
    rcases e6 with rfl | rfl
    · have q0_0 := hL.cell (k := 0) rfl
      have q0_1 := hL.cell (k := 1) rfl
      have q0_2 := hL.cell (k := 2) rfl
      have q0_l := hL.lt
      have q1_0 := l3.cell (k := 0) rfl
      have q1_1 := l3.cell (k := 1) rfl
      have q1_l := l3.lt
      have q2_0 := l7.cell (k := 0) rfl
      have q2_1 := l7.cell (k := 1) rfl
      have q2_l := l7.lt
      go_wp2_with fail
      clear q0_0 q0_1 q0_2 q0_l
      clear q1_0 q1_1 q1_l
      clear q2_0 q2_1 q2_l
      obtain ⟨B10, hb⟩ : ∃ b, b = Y9.w.heap.size := ⟨_, rfl⟩
      have l10 : Lin (Y9.w.alloc (.cells #[.int .i64 0, .int .i64 H2] 57)) B10 57 [.int .i64 0, .int .i64 H2] := by rw [hb]; exact Lin.new _ _ [.int .i64 0, .int .i64 H2]
      replace S := S.later (Later.new _ (.cells #[.int .i64 0, .int .i64 H2] 57))
      rw [Later.new_w] at S
      replace hL := hL.later (Later.new _ (.cells #[.int .i64 0, .int .i64 H2] 57))
      rw [Later.new_w] at hL
      replace l3 := l3.later (Later.new _ (.cells #[.int .i64 0, .int .i64 H2] 57))
      rw [Later.new_w] at l3
      replace lT := lT.later (Later.new _ (.cells #[.int .i64 0, .int .i64 H2] 57))
      rw [Later.new_w] at lT
      replace l7 := l7.later (Later.new _ (.cells #[.int .i64 0, .int .i64 H2] 57))
      rw [Later.new_w] at l7
      have hsz : (Y9.w.alloc (.cells #[.int .i64 0, .int .i64 H2] 57)).heap.size = B10 + 1 := by rw [hb]; simp
      obtain ⟨Y11, hZ⟩ : ∃ Z : Later W, Z.w = Y9.w.alloc (.cells #[.int .i64 0, .int .i64 H2] 57) := ⟨Y9.step (Later.new _ _), rfl⟩
      rw [← hZ] at S hsz hL l3 lT l7 l10 ⊢
      clear hZ
      rw [← hb]
      clear hb
      try rw [← hsz]
      clear hsz
      refine (Works_calls _).mono ?_
      rintro e w' ⟨rfl, y, rfl⟩
      go_wp2
      go_ret
      exact ⟨rfl, Y11.step (y), rfl⟩
    · have q0_0 := hL.cell (k := 0) rfl
      have q0_1 := hL.cell (k := 1) rfl
      have q0_2 := hL.cell (k := 2) rfl
      have q0_l := hL.lt
      have q1_0 := l3.cell (k := 0) rfl
      have q1_1 := l3.cell (k := 1) rfl
      have q1_l := l3.lt
      have q2_0 := l7.cell (k := 0) rfl
      have q2_1 := l7.cell (k := 1) rfl
      have q2_l := l7.lt
      go_wp2_with fail
      clear q0_0 q0_1 q0_2 q0_l
      clear q1_0 q1_1 q1_l
      clear q2_0 q2_1 q2_l
      obtain ⟨B10, hb⟩ : ∃ b, b = Y9.w.heap.size := ⟨_, rfl⟩
      have l10 : Lin (Y9.w.alloc (.cells #[.int .i64 0, .int .i64 H2] 57)) B10 57 [.int .i64 0, .int .i64 H2] := by rw [hb]; exact Lin.new _ _ [.int .i64 0, .int .i64 H2]
      replace S := S.later (Later.new _ (.cells #[.int .i64 0, .int .i64 H2] 57))
      rw [Later.new_w] at S
      replace hL := hL.later (Later.new _ (.cells #[.int .i64 0, .int .i64 H2] 57))
      rw [Later.new_w] at hL
      replace l3 := l3.later (Later.new _ (.cells #[.int .i64 0, .int .i64 H2] 57))
      rw [Later.new_w] at l3
      replace lT := lT.later (Later.new _ (.cells #[.int .i64 0, .int .i64 H2] 57))
      rw [Later.new_w] at lT
      replace l7 := l7.later (Later.new _ (.cells #[.int .i64 0, .int .i64 H2] 57))
      rw [Later.new_w] at l7
      have hsz : (Y9.w.alloc (.cells #[.int .i64 0, .int .i64 H2] 57)).heap.size = B10 + 1 := by rw [hb]; simp
      obtain ⟨Y11, hZ⟩ : ∃ Z : Later W, Z.w = Y9.w.alloc (.cells #[.int .i64 0, .int .i64 H2] 57) := ⟨Y9.step (Later.new _ _), rfl⟩
      rw [← hZ] at S hsz hL l3 lT l7 l10 ⊢
      clear hZ
      rw [← hb]
      clear hb
      try rw [← hsz]
      clear hsz
      refine (Works_calls _).mono ?_
      rintro e w' ⟨rfl, y, rfl⟩
      go_wp2
      go_ret
      exact ⟨rfl, Y11.step (y), rfl⟩
end Go.Proofs.Ytpkgfkeekcgkcaa
