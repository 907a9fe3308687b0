import Derived.Test.YtpkgfkeekcgkcaaLwB
/-  The fewest marks of several texts: near, joined, turned. -/
namespace Go.Proofs.Ytpkgfkeekcgkcaa
open Go.RowKit
open Lcs (few len)
theorem fewE_ok {a b : List UInt8} (h : txtsE a b = 0) : fewE a b = (few a b : Nat) := by rw [fewE, if_pos h]
theorem txts_of {a b : List UInt8} (ha : a.length ≤ 12) (hb : b.length ≤ 12) : txtsE a b = 0 := by
  have h1 : txtE a = 0 := by rw [txtE, if_neg (by omega)]
  have h2 : txtE b = 0 := by rw [txtE, if_neg (by omega)]
  rw [txtsE, h1, h2]; rfl
theorem txts_beq {a b : List UInt8} {X : Bool} (h : Hid ((txtsE a b == 0) = X)) (hX : X = true) : txtsE a b = 0 := by
  have := h.out
  rw [hX] at this
  simpa using this
set_option maxRecDepth 100000 in
set_option maxHeartbeats 8000000 in
theorem ProofNear_calls (a b c : List UInt8) (W : World) :
    Calls Try.prog 9 #[.string ⟨a.toArray⟩, .string ⟨b.toArray⟩, .string ⟨c.toArray⟩] W (Gives (.bool true) W) := by
  have S : Ins W [] := Ins.nil _
  obtain ⟨X, hX⟩ : ∃ X, (txtsE a b == 0) = X := ⟨_, rfl⟩
  have HX := Lib.hid hX
  clear hX
  obtain ⟨Z, hZ⟩ : ∃ X, (txtsE b c == 0) = X := ⟨_, rfl⟩
  have HZ := Lib.hid hZ
  clear hZ
  cases X
  · go_enter Try.func9, Try.ntmps9
    go_wp2_with fail
    refine (texts_calls a b _).mono ?_
    rintro e w' ⟨rfl, hw⟩
    rw [hw, HX.out]
    clear hw w'
    go_wp2_with fail
    refine (Works_calls _).mono ?_
    rintro e w' ⟨rfl, y, rfl⟩
    go_wp2
    go_ret
    exact ⟨rfl, y, rfl⟩
  cases Z
  · go_enter Try.func9, Try.ntmps9
    go_wp2_with fail
    refine (texts_calls a b _).mono ?_
    rintro e w' ⟨rfl, hw⟩
    rw [hw, HX.out]
    clear hw w'
    go_wp2_with fail
    refine (texts_calls b c _).mono ?_
    rintro e w' ⟨rfl, hw⟩
    rw [hw, HZ.out]
    clear hw w'
    go_wp2_with fail
    refine (Works_calls _).mono ?_
    rintro e w' ⟨rfl, y, rfl⟩
    go_wp2
    go_ret
    exact ⟨rfl, y, rfl⟩
  go_enter Try.func9, Try.ntmps9
  go_wp2_with fail
  refine (texts_calls a b _).mono ?_
  rintro e w' ⟨rfl, hw⟩
  rw [hw, HX.out]
  clear hw w'
  go_wp2_with fail
  refine (texts_calls b c _).mono ?_
  rintro e w' ⟨rfl, hw⟩
  rw [hw, HZ.out]
  clear hw w'
  have e1 := txts_beq HX rfl
  have e2 := txts_beq HZ rfl
  have l1 := txts_ok e1
  have l2 := txts_ok e2
  have f1 := fewE_ok e1
  have f3 := fewE_ok e2
  have f2 := fewE_ok (txts_of l1.2 l1.1)
  have f4 := fewE_ok (txts_of l1.1 l2.2)
  have t2 := txts_of l1.2 l1.1
  have t4 := txts_of l1.1 l2.2
  have g1 := Lcs.few_via a b c
  have g2 := Lcs.few_eq a b
  have g3 := Lcs.few_eq b c
  have g4 := Lcs.len_le a b
  rw [Lcs.few_comm b a] at f2
  have hz : few a b = 0 ↔ a = b := ⟨Lcs.few_zero, fun e => by rw [e, Lcs.few_self]⟩
  obtain ⟨n1, h1⟩ : ∃ n, few a b = n := ⟨_, rfl⟩
  obtain ⟨n2, h2⟩ : ∃ n, few b c = n := ⟨_, rfl⟩
  obtain ⟨n3, h3⟩ : ∃ n, few a c = n := ⟨_, rfl⟩
  obtain ⟨na, hna⟩ : ∃ n, a.length = n := ⟨_, rfl⟩
  obtain ⟨nb, hnb⟩ : ∃ n, b.length = n := ⟨_, rfl⟩
  obtain ⟨nc, hnc⟩ : ∃ n, c.length = n := ⟨_, rfl⟩
  obtain ⟨L, hL⟩ : ∃ n, len a b = n := ⟨_, rfl⟩
  obtain ⟨M, hM⟩ : ∃ n, len b c = n := ⟨_, rfl⟩
  rw [h1] at f1 f2 hz
  rw [h2] at f3
  rw [h3] at f4
  rw [h1, h2, h3] at g1
  rw [h1, hL, hna, hnb] at g2
  rw [h2, hM, hnb, hnc] at g3
  rw [hL, hna, hnb] at g4
  rw [hna, hnb] at l1
  rw [hnb, hnc] at l2
  have hsa : (⟨a.toArray⟩ : ByteArray).size = na := by rw [str_size]; exact hna
  have hsb : (⟨b.toArray⟩ : ByteArray).size = nb := by rw [str_size]; exact hnb
  have F1 := Lib.hid (And.intro f1 e1)
  have F2 := Lib.hid (And.intro f2 t2)
  have F3 := Lib.hid (And.intro f3 e2)
  have F4 := Lib.hid (And.intro f4 t4)
  have d1 : decide (0 ≤ (n1 : Int)) = true := decide_eq_true (by omega)
  have d2 : decide ((n1 : Int) ≤ 24) = true := decide_eq_true (by omega)
  have d3 : decide (0 ≤ (n2 : Int)) = true := decide_eq_true (by omega)
  have d4 : decide ((n2 : Int) ≤ 24) = true := decide_eq_true (by omega)
  have d5 : decide ((n3 : Int) ≤ (n1 : Int) + (n2 : Int)) = true := decide_eq_true (by omega)
  have d6 : ((n1 : Int) + (na : Int) + (nb : Int)) % 2 = 0 := by omega
  have d7 : decide ((na : Int) - (nb : Int) ≤ (n1 : Int)) = true := decide_eq_true (by omega)
  have d8 : decide ((nb : Int) - (na : Int) ≤ (n1 : Int)) = true := decide_eq_true (by omega)
  obtain ⟨R, hR⟩ : ∃ R, decide (a = b) = R := ⟨_, rfl⟩
  have d9 : (a == b) = R := by rw [← hR, Bool.eq_iff_iff, decide_eq_true_iff]; exact beq_iff_eq
  have d10 : ((n1 : Int) == 0) = R := by rw [← hR]; rw [Bool.eq_iff_iff]; simp only [beq_iff_eq, decide_eq_true_iff]; rw [← hz]; omega
  have b1 : n1 ≤ 24 := by omega
  have b2 : n2 ≤ 24 := by omega
  have b3 : n3 ≤ 48 := by omega
  have b4 : na ≤ 12 := l1.1
  have b5 : nb ≤ 12 := l1.2
  clear f1 f2 f3 f4 e1 e2 t2 t4 l1 l2 g1 g2 g3 g4 hz h1 h2 h3 hna hnb hnc hL hM hR
  go_wp2_with fail
  refine (Fewest_calls a b _).mono ?_
  rintro e w' ⟨rfl, y, rfl⟩
  rw [F1.out.1, F1.out.2]
  replace S := S.later y
  obtain ⟨Y1, hZ⟩ : ∃ Z : Later W, Z.w = y.w := ⟨y, rfl⟩
  rw [← hZ] at S ⊢
  clear hZ
  clear y
  go_wp2_with fail
  refine (Fewest_calls b a _).mono ?_
  rintro e w' ⟨rfl, y, rfl⟩
  rw [F2.out.1, F2.out.2]
  replace S := S.later y
  obtain ⟨Y2, hZ⟩ : ∃ Z : Later W, Z.w = y.w := ⟨Y1.step (y), rfl⟩
  rw [← hZ] at S ⊢
  clear hZ
  clear y
  go_wp2_with fail
  refine (Fewest_calls b c _).mono ?_
  rintro e w' ⟨rfl, y, rfl⟩
  rw [F3.out.1, F3.out.2]
  replace S := S.later y
  obtain ⟨Y3, hZ⟩ : ∃ Z : Later W, Z.w = y.w := ⟨Y2.step (y), rfl⟩
  rw [← hZ] at S ⊢
  clear hZ
  clear y
  go_wp2_with fail
  refine (Fewest_calls a c _).mono ?_
  rintro e w' ⟨rfl, y, rfl⟩
  rw [F4.out.1, F4.out.2]
  replace S := S.later y
  obtain ⟨Y4, hZ⟩ : ∃ Z : Later W, Z.w = y.w := ⟨Y3.step (y), rfl⟩
  rw [← hZ] at S ⊢
  clear hZ
  clear y
  go_wp2_with fail
  refine (Works_calls _).mono ?_
  rintro e w' ⟨rfl, y, rfl⟩
  go_wp2
  go_ret
  exact ⟨rfl, Y4.step (y), rfl⟩
end Go.Proofs.Ytpkgfkeekcgkcaa
