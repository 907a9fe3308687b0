import Derived.Test.YtpkgfkeekcgkcaaLwC
/-  The fewest marks of texts that are turned, or joined. -/
namespace Go.Proofs.Ytpkgfkeekcgkcaa
open Go.RowKit
open Lcs (few len)
theorem cat_run {x y : List UInt8} (hx : x.length ≤ 12) (hy : y.length ≤ 12) (w : World) : (Op.stringOp .add ⟨x.toArray⟩ ⟨y.toArray⟩).run Try.prog w = .ok (.string ⟨(x ++ y).toArray⟩) w :=
  run_string_add_lists w x y (by omega) (by omega)
set_option maxRecDepth 100000 in
set_option maxHeartbeats 8000000 in
theorem ProofJoined_calls (a b c d : List UInt8) (W : World) :
    Calls Try.prog 14 #[.string ⟨a.toArray⟩, .string ⟨b.toArray⟩, .string ⟨c.toArray⟩, .string ⟨d.toArray⟩] W (Gives (.bool true) W) := by
  have S : Ins W [] := Ins.nil _
  obtain ⟨X0, h0⟩ : ∃ X, (txtsE a b == 0) = X := ⟨_, rfl⟩
  have HX0 := Lib.hid h0
  clear h0
  obtain ⟨X1, h1⟩ : ∃ X, (txtsE c d == 0) = X := ⟨_, rfl⟩
  have HX1 := Lib.hid h1
  clear h1
  obtain ⟨X2, h2⟩ : ∃ X, (txtsE (a ++ c) (b ++ d) == 0) = X := ⟨_, rfl⟩
  have HX2 := Lib.hid h2
  clear h2
  obtain ⟨X3, h3⟩ : ∃ X, (txtsE (a ++ b) (a ++ d) == 0) = X := ⟨_, rfl⟩
  have HX3 := Lib.hid h3
  clear h3
  obtain ⟨X4, h4⟩ : ∃ X, (txtsE (b ++ c) (d ++ c) == 0) = X := ⟨_, rfl⟩
  have HX4 := Lib.hid h4
  clear h4
  cases X0
  · go_enter Try.func14, Try.ntmps14
    go_wp2_with fail
    refine (texts_calls a b _).mono ?_
    rintro e w' ⟨rfl, hw⟩
    rw [hw, HX0.out]
    clear hw w'
    go_wp2_with fail
    refine (Works_calls _).mono ?_
    rintro e w' ⟨rfl, y, rfl⟩
    go_wp2
    go_ret
    exact ⟨rfl, y, rfl⟩
  cases X1
  · go_enter Try.func14, Try.ntmps14
    go_wp2_with fail
    refine (texts_calls a b _).mono ?_
    rintro e w' ⟨rfl, hw⟩
    rw [hw, HX0.out]
    clear hw w'
    go_wp2_with fail
    refine (texts_calls c d _).mono ?_
    rintro e w' ⟨rfl, hw⟩
    rw [hw, HX1.out]
    clear hw w'
    go_wp2_with fail
    refine (Works_calls _).mono ?_
    rintro e w' ⟨rfl, y, rfl⟩
    go_wp2
    go_ret
    exact ⟨rfl, y, rfl⟩
  have l1 := txts_ok (txts_beq HX0 rfl)
  have l2 := txts_ok (txts_beq HX1 rfl)
  have k0 := fun w => cat_run (x := a) (y := c) l1.1 l2.1 w
  have k1 := fun w => cat_run (x := b) (y := d) l1.2 l2.2 w
  have k2 := fun w => cat_run (x := a) (y := b) l1.1 l1.2 w
  have k3 := fun w => cat_run (x := a) (y := d) l1.1 l2.2 w
  have k4 := fun w => cat_run (x := b) (y := c) l1.2 l2.1 w
  have k5 := fun w => cat_run (x := d) (y := c) l2.2 l2.1 w
  have t5 := txts_of l1.2 l2.2
  have f5 := fewE_ok t5
  have F5 := Lib.hid (And.intro f5 t5)
  have g1 := Lcs.few_eq a b
  have g2 := Lcs.few_eq c d
  have b1 : few a b ≤ 24 := by omega
  have b2 : few c d ≤ 24 := by omega
  have b5 : few b d ≤ 24 := by have := Lcs.few_eq b d; omega
  clear t5 f5 l1 l2 g1 g2
  cases X2
  · go_enter Try.func14, Try.ntmps14
    go_wp2_with fail
    refine (texts_calls a b _).mono ?_
    rintro e w' ⟨rfl, hw⟩
    rw [hw, HX0.out]
    clear hw w'
    go_wp2_with fail
    refine (texts_calls c d _).mono ?_
    rintro e w' ⟨rfl, hw⟩
    rw [hw, HX1.out]
    clear hw w'
    go_wp2_with fail
    refine (texts_calls (a ++ c) (b ++ d) _).mono ?_
    rintro e w' ⟨rfl, hw⟩
    rw [hw, HX2.out]
    clear hw w'
    go_wp2_with fail
    refine (Works_calls _).mono ?_
    rintro e w' ⟨rfl, y, rfl⟩
    go_wp2
    go_ret
    exact ⟨rfl, y, rfl⟩
  cases X3
  · go_enter Try.func14, Try.ntmps14
    go_wp2_with fail
    refine (texts_calls a b _).mono ?_
    rintro e w' ⟨rfl, hw⟩
    rw [hw, HX0.out]
    clear hw w'
    go_wp2_with fail
    refine (texts_calls c d _).mono ?_
    rintro e w' ⟨rfl, hw⟩
    rw [hw, HX1.out]
    clear hw w'
    go_wp2_with fail
    refine (texts_calls (a ++ c) (b ++ d) _).mono ?_
    rintro e w' ⟨rfl, hw⟩
    rw [hw, HX2.out]
    clear hw w'
    go_wp2_with fail
    refine (texts_calls (a ++ b) (a ++ d) _).mono ?_
    rintro e w' ⟨rfl, hw⟩
    rw [hw, HX3.out]
    clear hw w'
    go_wp2_with fail
    refine (Works_calls _).mono ?_
    rintro e w' ⟨rfl, y, rfl⟩
    go_wp2
    go_ret
    exact ⟨rfl, y, rfl⟩
  cases X4
  · go_enter Try.func14, Try.ntmps14
    go_wp2_with fail
    refine (texts_calls a b _).mono ?_
    rintro e w' ⟨rfl, hw⟩
    rw [hw, HX0.out]
    clear hw w'
    go_wp2_with fail
    refine (texts_calls c d _).mono ?_
    rintro e w' ⟨rfl, hw⟩
    rw [hw, HX1.out]
    clear hw w'
    go_wp2_with fail
    refine (texts_calls (a ++ c) (b ++ d) _).mono ?_
    rintro e w' ⟨rfl, hw⟩
    rw [hw, HX2.out]
    clear hw w'
    go_wp2_with fail
    refine (texts_calls (a ++ b) (a ++ d) _).mono ?_
    rintro e w' ⟨rfl, hw⟩
    rw [hw, HX3.out]
    clear hw w'
    go_wp2_with fail
    refine (texts_calls (b ++ c) (d ++ c) _).mono ?_
    rintro e w' ⟨rfl, hw⟩
    rw [hw, HX4.out]
    clear hw w'
    go_wp2_with fail
    refine (Works_calls _).mono ?_
    rintro e w' ⟨rfl, y, rfl⟩
    go_wp2
    go_ret
    exact ⟨rfl, y, rfl⟩
  have v := Lcs.few_app a b c d
  have v2 := Lcs.few_pre a b d
  have v3 := Lcs.few_post c b d
  have F0 := Lib.hid (And.intro (fewE_ok (txts_beq HX2 rfl)) (txts_beq HX2 rfl))
  have F1 := Lib.hid (And.intro (fewE_ok (txts_beq HX0 rfl)) (txts_beq HX0 rfl))
  have F2 := Lib.hid (And.intro (fewE_ok (txts_beq HX1 rfl)) (txts_beq HX1 rfl))
  have F3 := Lib.hid (And.intro (fewE_ok (txts_beq HX3 rfl)) (txts_beq HX3 rfl))
  have F4 := Lib.hid (And.intro (fewE_ok (txts_beq HX4 rfl)) (txts_beq HX4 rfl))
  rw [v2] at F3
  rw [v3] at F4
  obtain ⟨n1, h1⟩ : ∃ n, few a b = n := ⟨_, rfl⟩
  obtain ⟨n2, h2⟩ : ∃ n, few c d = n := ⟨_, rfl⟩
  obtain ⟨n3, h3⟩ : ∃ n, few (a ++ c) (b ++ d) = n := ⟨_, rfl⟩
  obtain ⟨n5, h5⟩ : ∃ n, few b d = n := ⟨_, rfl⟩
  rw [h3] at F0
  rw [h1] at F1 b1
  rw [h2] at F2 b2
  rw [h5] at F3 F4 F5 b5
  rw [h1, h2, h3] at v
  have d1 : decide (0 ≤ (n1 : Int)) = true := decide_eq_true (by omega)
  have d2 : decide ((n1 : Int) ≤ 24) = true := decide_eq_true (by omega)
  have d3 : decide (0 ≤ (n2 : Int)) = true := decide_eq_true (by omega)
  have d4 : decide ((n2 : Int) ≤ 24) = true := decide_eq_true (by omega)
  have d5 : decide ((n3 : Int) ≤ (n1 : Int) + (n2 : Int)) = true := decide_eq_true (by omega)
  have b3 : n3 ≤ 48 := by omega
  clear v v2 v3 h1 h2 h3 h5
  go_enter Try.func14, Try.ntmps14
  go_wp2_with fail
  refine (texts_calls a b _).mono ?_
  rintro e w' ⟨rfl, hw⟩
  rw [hw, HX0.out]
  clear hw w'
  go_wp2_with fail
  refine (texts_calls c d _).mono ?_
  rintro e w' ⟨rfl, hw⟩
  rw [hw, HX1.out]
  clear hw w'
  go_wp2_with fail
  refine (texts_calls (a ++ c) (b ++ d) _).mono ?_
  rintro e w' ⟨rfl, hw⟩
  rw [hw, HX2.out]
  clear hw w'
  go_wp2_with fail
  refine (texts_calls (a ++ b) (a ++ d) _).mono ?_
  rintro e w' ⟨rfl, hw⟩
  rw [hw, HX3.out]
  clear hw w'
  go_wp2_with fail
  refine (texts_calls (b ++ c) (d ++ c) _).mono ?_
  rintro e w' ⟨rfl, hw⟩
  rw [hw, HX4.out]
  clear hw w'
  go_wp2_with fail
  refine (Fewest_calls (a ++ c) (b ++ d) _).mono ?_
  rintro e w' ⟨rfl, y, rfl⟩
  rw [F0.out.1, F0.out.2]
  replace S := S.later y
  obtain ⟨Y1, hZ⟩ : ∃ Z : Later W, Z.w = y.w := ⟨y, rfl⟩
  rw [← hZ] at S ⊢
  clear hZ
  clear y
  go_wp2_with fail
  refine (Fewest_calls a b _).mono ?_
  rintro e w' ⟨rfl, y, rfl⟩
  rw [F1.out.1, F1.out.2]
  replace S := S.later y
  obtain ⟨Y2, hZ⟩ : ∃ Z : Later W, Z.w = y.w := ⟨Y1.step (y), rfl⟩
  rw [← hZ] at S ⊢
  clear hZ
  clear y
  go_wp2_with fail
  refine (Fewest_calls c d _).mono ?_
  rintro e w' ⟨rfl, y, rfl⟩
  rw [F2.out.1, F2.out.2]
  replace S := S.later y
  obtain ⟨Y3, hZ⟩ : ∃ Z : Later W, Z.w = y.w := ⟨Y2.step (y), rfl⟩
  rw [← hZ] at S ⊢
  clear hZ
  clear y
  go_wp2_with fail
  refine (Fewest_calls (a ++ b) (a ++ d) _).mono ?_
  rintro e w' ⟨rfl, y, rfl⟩
  rw [F3.out.1, F3.out.2]
  replace S := S.later y
  obtain ⟨Y4, hZ⟩ : ∃ Z : Later W, Z.w = y.w := ⟨Y3.step (y), rfl⟩
  rw [← hZ] at S ⊢
  clear hZ
  clear y
  go_wp2_with fail
  refine (Fewest_calls (b ++ c) (d ++ c) _).mono ?_
  rintro e w' ⟨rfl, y, rfl⟩
  rw [F4.out.1, F4.out.2]
  replace S := S.later y
  obtain ⟨Y5, hZ⟩ : ∃ Z : Later W, Z.w = y.w := ⟨Y4.step (y), rfl⟩
  rw [← hZ] at S ⊢
  clear hZ
  clear y
  go_wp2_with fail
  refine (Fewest_calls b d _).mono ?_
  rintro e w' ⟨rfl, y, rfl⟩
  rw [F5.out.1, F5.out.2]
  replace S := S.later y
  obtain ⟨Y6, hZ⟩ : ∃ Z : Later W, Z.w = y.w := ⟨Y5.step (y), rfl⟩
  rw [← hZ] at S ⊢
  clear hZ
  clear y
  go_wp2_with fail
  refine (Works_calls _).mono ?_
  rintro e w' ⟨rfl, y, rfl⟩
  go_wp2
  go_ret
  exact ⟨rfl, Y6.step (y), rfl⟩
theorem turn_few (a b : List UInt8) (m : Nat) : few (turnL a m) (turnL b m) = few a b := by
  rw [turnL, turnL, Lcs.few_map, Lcs.few_rev]
  intro x _ y _
  constructor
  · intro h
    have h2 : x + UInt8.ofNat m - UInt8.ofNat m = y + UInt8.ofNat m - UInt8.ofNat m := congrArg (· - UInt8.ofNat m) h
    simpa using h2
  · intro h; rw [h]
theorem turn_len (a : List UInt8) (m : Nat) : (turnL a m).length = a.length := by simp [turnL]
set_option maxRecDepth 100000 in
set_option maxHeartbeats 8000000 in
theorem ProofTurned_calls (a b : List UInt8) (m : Nat) (W : World) :
    Calls Try.prog 13 #[.string ⟨a.toArray⟩, .string ⟨b.toArray⟩, .int .u8 (m : Int)] W (Gives (.bool true) W) := by
  have S : Ins W [] := Ins.nil _
  obtain ⟨X, hX⟩ : ∃ X, (txtsE a b == 0) = X := ⟨_, rfl⟩
  have HX := Lib.hid hX
  clear hX
  cases X
  · go_enter Try.func13, Try.ntmps13
    go_wp2_with fail
    refine (texts_calls a b _).mono ?_
    rintro e w' ⟨rfl, hw⟩
    rw [hw, HX.out]
    clear hw w'
    go_wp2_with fail
    refine (Works_calls _).mono ?_
    rintro e w' ⟨rfl, y, rfl⟩
    go_wp2
    go_ret
    exact ⟨rfl, y, rfl⟩
  go_enter Try.func13, Try.ntmps13
  go_wp2_with fail
  refine (texts_calls a b _).mono ?_
  rintro e w' ⟨rfl, hw⟩
  rw [hw, HX.out]
  clear hw w'
  have t0 := txts_beq HX rfl
  have l := txts_ok t0
  have f0 := fewE_ok t0
  have t1 := txts_of (a := turnL a 0) (b := turnL b 0) (by rw [turn_len]; exact l.1) (by rw [turn_len]; exact l.2)
  have t2 := txts_of (a := turnL a m) (b := turnL b m) (by rw [turn_len]; exact l.1) (by rw [turn_len]; exact l.2)
  have f1 := fewE_ok t1
  have f2 := fewE_ok t2
  rw [turn_few] at f1 f2
  obtain ⟨n, hn⟩ : ∃ n, few a b = n := ⟨_, rfl⟩
  rw [hn] at f0 f1 f2
  have F0 := Lib.hid (And.intro f0 t0)
  have F1 := Lib.hid (And.intro f1 t1)
  have F2 := Lib.hid (And.intro f2 t2)
  have HLN := Lib.hid l
  clear t0 t1 t2 f0 f1 f2 hn l
  go_wp2_with fail
  refine (Fewest_calls a b _).mono ?_
  rintro e w' ⟨rfl, y, rfl⟩
  rw [F0.out.1, F0.out.2]
  replace S := S.later y
  obtain ⟨Y1, hZ⟩ : ∃ Z : Later W, Z.w = y.w := ⟨y, rfl⟩
  rw [← hZ] at S ⊢
  clear hZ
  clear y
  go_wp2_with fail
  refine (turned_calls a 0 (by have := HLN.out; omega) _).mono ?_
  rintro e w' ⟨rfl, y, rfl⟩
  replace S := S.later y
  obtain ⟨Y2, hZ⟩ : ∃ Z : Later W, Z.w = y.w := ⟨Y1.step (y), rfl⟩
  rw [← hZ] at S ⊢
  clear hZ
  clear y
  go_wp2_with fail
  refine (turned_calls b 0 (by have := HLN.out; omega) _).mono ?_
  rintro e w' ⟨rfl, y, rfl⟩
  replace S := S.later y
  obtain ⟨Y3, hZ⟩ : ∃ Z : Later W, Z.w = y.w := ⟨Y2.step (y), rfl⟩
  rw [← hZ] at S ⊢
  clear hZ
  clear y
  go_wp2_with fail
  refine (Fewest_calls (turnL a 0) (turnL b 0) _).mono ?_
  rintro e w' ⟨rfl, y, rfl⟩
  rw [F1.out.1, F1.out.2]
  replace S := S.later y
  obtain ⟨Y4, hZ⟩ : ∃ Z : Later W, Z.w = y.w := ⟨Y3.step (y), rfl⟩
  rw [← hZ] at S ⊢
  clear hZ
  clear y
  go_wp2_with fail
  refine (turned_calls a m (by have := HLN.out; omega) _).mono ?_
  rintro e w' ⟨rfl, y, rfl⟩
  replace S := S.later y
  obtain ⟨Y5, hZ⟩ : ∃ Z : Later W, Z.w = y.w := ⟨Y4.step (y), rfl⟩
  rw [← hZ] at S ⊢
  clear hZ
  clear y
  go_wp2_with fail
  refine (turned_calls b m (by have := HLN.out; omega) _).mono ?_
  rintro e w' ⟨rfl, y, rfl⟩
  replace S := S.later y
  obtain ⟨Y6, hZ⟩ : ∃ Z : Later W, Z.w = y.w := ⟨Y5.step (y), rfl⟩
  rw [← hZ] at S ⊢
  clear hZ
  clear y
  go_wp2_with fail
  refine (Fewest_calls (turnL a m) (turnL b m) _).mono ?_
  rintro e w' ⟨rfl, y, rfl⟩
  rw [F2.out.1, F2.out.2]
  replace S := S.later y
  obtain ⟨Y7, hZ⟩ : ∃ Z : Later W, Z.w = y.w := ⟨Y6.step (y), rfl⟩
  rw [← hZ] at S ⊢
  clear hZ
  clear y
  go_wp2_with fail
  refine (Works_calls _).mono ?_
  rintro e w' ⟨rfl, y, rfl⟩
  go_wp2
  go_ret
  exact ⟨rfl, Y7.step (y), rfl⟩
end Go.Proofs.Ytpkgfkeekcgkcaa
