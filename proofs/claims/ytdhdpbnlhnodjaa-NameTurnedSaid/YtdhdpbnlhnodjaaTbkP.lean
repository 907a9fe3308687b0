import Derived.Test.YtdhdpbnlhnodjaaTurS
import Derived.Test.YtdhdpbnlhnodjaaBoyS
/-  The law's functions turned and back. -/
namespace Go.Proofs.Ytdhdpbnlhnodjaa
open Go.RowKit
theorem back_calls (p n : Nat) (hn : n ≤ 10) (hp : p < 2 * n) (W : World) : Calls Try.prog 49 #[.int .i64 (p : Int), .int .i64 (n : Int)] W fun e w' => e = .returned (.int .i64 (backP n p : Nat)) ∧ w' = W := by
  obtain ⟨h, hh⟩ : ∃ h, p / 2 = h := ⟨_, rfl⟩
  obtain ⟨r, hr⟩ : ∃ r, p % 2 = r := ⟨_, rfl⟩
  have eh : (p : Int) / 2 = (h : Int) := by rw [← hh]; omega
  have er : (p : Int) % 2 = (r : Int) := by rw [← hr]; omega
  have hr2 : r < 2 := by omega
  have hhn : h < n := by omega
  have hv := Lib.hid (show 2 * ((n : Int) - 1 - (h : Int)) + (r : Int) = (backP n p : Nat) by rw [backP, hh, hr]; omega)
  clear hh hr
  go_enter Try.func49, Try.ntmps49
  go_wp2
  go_ret
  exact ⟨ret_int hv.out, rfl⟩
theorem turned_calls (p k : Nat) (hp : p < 50) (hk : k < 50) (W : World) : Calls Try.prog 48 #[.int .i64 (p : Int), .int .i64 (k : Int)] W fun e w' => e = .returned (.int .i64 (turnP k p : Nat)) ∧ w' = W := by
  obtain ⟨h, hh⟩ : ∃ h, p / 2 = h := ⟨_, rfl⟩
  have eh : (p : Int) / 2 = (h : Int) := by rw [← hh]; omega
  by_cases hk2 : h = k
  · have hv := Lib.hid (show turnP k p = Sat.mate p by rw [turnP, if_pos (hh.trans hk2)])
    clear hh
    subst hk2
    go_enter Try.func48, Try.ntmps48
    go_wp2_with fail
    refine (refMate_calls p (by omega) _).mono ?_
    rintro e w' ⟨rfl, rfl⟩
    go_wp2
    go_ret
    exact ⟨ret_int (by rw [hv.out]), rfl⟩
  · have hv := Lib.hid (show turnP k p = p by rw [turnP, if_neg fun e => hk2 (hh.symm.trans e)])
    have hd : ((h : Int) == (k : Int)) = false := by simp; omega
    clear hh
    go_enter Try.func48, Try.ntmps48
    go_wp2
    go_ret
    exact ⟨ret_int (by rw [hv.out]), rfl⟩
end Go.Proofs.Ytdhdpbnlhnodjaa
