import Derived.Test.YtieaibebnkdmhaaLibA
import Derived.Deep.RegionHeld3
namespace Go.Proofs.Ytieaibebnkdmhaa
open Go.RowKit
def strayB (below : Int) : List Int → Bool := fun l => l.any (outB 0 (below - 1))

set_option maxHeartbeats 400000 in
theorem stray_calls (v : Value) (xs : List Int) (below : Int) (b : Nat) (w : World) (hx : Ints w v xs) (h0 : 0 ≤ below) (h1 : below ≤ 9007199254740992) (hc : w.cell? ⟨b, 0, none⟩ = some (.int .i64 below)) :
    Calls Try.prog 59 #[v, .pointer (some ⟨b, 0, none⟩)] w (Gives (.bool (strayB below xs)) w) := by
  go_enter Try.func59, Try.ntmps59
  go_wp2_with (go_at_call 60; (with_reducible refine (within_calls _ xs _ _ _ hx).mono ?_); rintro e w' ⟨rfl, x, rfl⟩)
  go_ret
  exact ⟨ret_bool (by simp [strayB]), x, rfl⟩

set_option maxHeartbeats 400000 in
theorem mkStray_calls (below : Int) (w : World) :
    Calls Try.prog 58 #[.int .i64 below] w fun e w' => ∃ b : Nat, ∃ x : Later w, e = .returned (.func (.func 59) #[] #[.pointer (some ⟨b, 0, none⟩)]) ∧ w' = x.w ∧ b < x.w.heap.size ∧ x.w.cell? ⟨b, 0, none⟩ = some (.int .i64 below) := by
  have key : Calls Try.prog 58 #[.int .i64 below] w fun e w' => e = .returned (.func (.func 59) #[] #[.pointer (some ⟨w.heap.size, 0, none⟩)]) ∧ w' = w.alloc (.cells #[.int .i64 below] 3) := by
    go_enter Try.func58, Try.ntmps58
    go_wp2
    go_ret
    exact ⟨rfl, rfl⟩
  exact key.mono fun e w' ⟨he, hw⟩ => ⟨_, Later.new w _, he, hw, by simp [Later.new], by simp [Later.new]⟩

set_option maxHeartbeats 400000 in
theorem IndexFunc_stray (v : Value) (xs : List (List Int)) (below : Int) (b1 : Nat) (w : World) (hx : Rows2 w v xs) (hb1 : b1 < w.heap.size) (h0 : 0 ≤ below) (hB : below ≤ 9007199254740992) (h1 : w.cell? ⟨b1, 0, none⟩ = some (.int .i64 below)) :
    Calls Try.prog 85 #[v, .func (.func 59) #[] #[.pointer (some ⟨b1, 0, none⟩)]] w (Gives (.int .i64 (idxR (strayB below) xs 0)) w) := by
  obtain ⟨hl, ⟨rfl, a, cap, rfl⟩ | ⟨b, off, cap, f, rfl, hcp, hb, hc⟩⟩ := hx
  · go_enter Try.func85, Try.ntmps85
    go_wp2
    go_loop [8] (fun i => i = .int .i64 0) (fun _ => 0)
    case atStart => rfl
    case round =>
      obtain rfl := hrel
      go_wp2
      go_ret
      exact ⟨rfl, Later.self _, rfl⟩
  · go_enter Try.func85, Try.ntmps85
    go_wp2
    go_loopw [8] (fun i wr => ∃ k : Nat, ∃ x : Later w, wr = x.w ∧ k ≤ xs.length ∧ i = .int .i64 k ∧ Hid (idxR (strayB below) xs 0 = idxR (strayB below) (xs.drop k) k)) (fun i _ => xs.length - (intOf i).toNat)
    case atStart => exact ⟨0, Later.self _, rfl, Nat.zero_le _, rfl, rfl⟩
    case round =>
      obtain ⟨k, x, rfl, hk, rfl, hp⟩ := hrel
      by_cases hlt : k < xs.length
      · have hcell := hc k hlt
        obtain ⟨hcell, hrow⟩ := hcell
        have hs := Lib.hid (idxR_at (strayB below) xs k hlt)
        clear hc
        cases he : (strayB below) (row xs k)
        · go_wp2_with (go_at_call 59; refine (Later.quiet x (stray_calls _ _ below b1 _ (hrow.later x) h0 hB ((x.cell hb1).trans h1))).mono ?_; rintro e w' ⟨rfl, x, rfl⟩)
          go_roundw
          case rel => exact ⟨k + 1, _, rfl, by omega, by go_num, by unfold Hid; rw [hp.out, hs.out, if_neg (by rw [he]; simp)]⟩
          case measure => simp [intOf]; omega
        · go_wp2_with (go_at_call 59; refine (Later.quiet x (stray_calls _ _ below b1 _ (hrow.later x) h0 hB ((x.cell hb1).trans h1))).mono ?_; rintro e w' ⟨rfl, x, rfl⟩)
          go_ret
          exact ⟨ret_int (by rw [hp.out, hs.out, if_pos he]), _, rfl⟩
      · have hs := Lib.hid (idxR_end (strayB below) xs k (by omega))
        clear hc
        go_wp2
        go_ret
        exact ⟨ret_int (by rw [hp.out, hs.out]), x, rfl⟩

set_option maxHeartbeats 400000 in
theorem IndexFunc_twice (v : Value) (xs : List (List Int))  (w : World) (hx : Rows2 w v xs)  :
    Calls Try.prog 85 #[v, .func (.func 62) #[] #[]] w (Gives (.int .i64 (idxR twc xs 0)) w) := by
  obtain ⟨hl, ⟨rfl, a, cap, rfl⟩ | ⟨b, off, cap, f, rfl, hcp, hb, hc⟩⟩ := hx
  · go_enter Try.func85, Try.ntmps85
    go_wp2
    go_loop [8] (fun i => i = .int .i64 0) (fun _ => 0)
    case atStart => rfl
    case round =>
      obtain rfl := hrel
      go_wp2
      go_ret
      exact ⟨rfl, Later.self _, rfl⟩
  · go_enter Try.func85, Try.ntmps85
    go_wp2
    go_loopw [8] (fun i wr => ∃ k : Nat, ∃ x : Later w, wr = x.w ∧ k ≤ xs.length ∧ i = .int .i64 k ∧ Hid (idxR twc xs 0 = idxR twc (xs.drop k) k)) (fun i _ => xs.length - (intOf i).toNat)
    case atStart => exact ⟨0, Later.self _, rfl, Nat.zero_le _, rfl, rfl⟩
    case round =>
      obtain ⟨k, x, rfl, hk, rfl, hp⟩ := hrel
      by_cases hlt : k < xs.length
      · have hcell := hc k hlt
        obtain ⟨hcell, hrow⟩ := hcell
        have hs := Lib.hid (idxR_at twc xs k hlt)
        clear hc
        cases he : twc (row xs k)
        · go_wp2_with (go_at_call 62; refine (Later.quiet_same x (twice_calls _ _ _ (hrow.later x))).mono ?_; rintro e w' ⟨rfl, x, rfl⟩)
          go_roundw
          case rel => exact ⟨k + 1, _, rfl, by omega, by go_num, by unfold Hid; rw [hp.out, hs.out, if_neg (by rw [he]; simp)]⟩
          case measure => simp [intOf]; omega
        · go_wp2_with (go_at_call 62; refine (Later.quiet_same x (twice_calls _ _ _ (hrow.later x))).mono ?_; rintro e w' ⟨rfl, x, rfl⟩)
          go_ret
          exact ⟨ret_int (by rw [hp.out, hs.out, if_pos he]), _, rfl⟩
      · have hs := Lib.hid (idxR_end twc xs k (by omega))
        clear hc
        go_wp2
        go_ret
        exact ⟨ret_int (by rw [hp.out, hs.out]), x, rfl⟩

set_option maxHeartbeats 400000 in
theorem ContainsFunc_stray (v : Value) (xs : List (List Int)) (below : Int) (b1 : Nat) (w : World) (hx : Rows2 w v xs) (hb1 : b1 < w.heap.size) (h0 : 0 ≤ below) (hB : below ≤ 9007199254740992) (h1 : w.cell? ⟨b1, 0, none⟩ = some (.int .i64 below)) :
    Calls Try.prog 61 #[v, .func (.func 59) #[] #[.pointer (some ⟨b1, 0, none⟩)]] w (Gives (.bool (xs.any (strayB below))) w) := by
  have h := Lib.hid (idxR_any (strayB below) xs)
  go_enter Try.func61, Try.ntmps61
  go_wp2_with (go_at_call 85; (with_reducible refine (IndexFunc_stray _ xs below b1 _ hx hb1 h0 hB h1).mono ?_); rintro e w' ⟨rfl, x, rfl⟩)
  go_ret
  exact ⟨ret_bool h.out, x, rfl⟩

set_option maxHeartbeats 400000 in
theorem ContainsFunc_twice (v : Value) (xs : List (List Int))  (w : World) (hx : Rows2 w v xs)  :
    Calls Try.prog 61 #[v, .func (.func 62) #[] #[]] w (Gives (.bool (xs.any twc)) w) := by
  have h := Lib.hid (idxR_any twc xs)
  go_enter Try.func61, Try.ntmps61
  go_wp2_with (go_at_call 85; (with_reducible refine (IndexFunc_twice _ xs _ hx).mono ?_); rintro e w' ⟨rfl, x, rfl⟩)
  go_ret
  exact ⟨ret_bool h.out, x, rfl⟩


end Go.Proofs.Ytieaibebnkdmhaa
