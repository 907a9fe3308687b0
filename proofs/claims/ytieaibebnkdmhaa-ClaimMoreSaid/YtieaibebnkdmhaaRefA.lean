import Derived.Test.YtieaibebnkdmhaaBase
namespace Go.Proofs.Ytieaibebnkdmhaa
open Go.RowKit

/-- the place of a number in a list, from k on -/
def plcF (n : Int) : List Int → Nat → Int
  | [], _ => -1
  | x :: xs, k => if x == n then (k : Int) else plcF n xs (k + 1)
def plc (xs : List Int) (n : Int) : Int := plcF n xs 0

theorem plcF_at (n : Int) (xs : List Int) (k : Nat) (h : k < xs.length) :
    plcF n (xs.drop k) k = if nth xs k == n then (k : Int) else plcF n (xs.drop (k + 1)) (k + 1) := by
  rw [List.drop_eq_getElem_cons h, plcF, nth_eq h]
theorem plcF_end (n : Int) (xs : List Int) (k : Nat) (h : xs.length ≤ k) : plcF n (xs.drop k) k = -1 := by
  rw [List.drop_eq_nil_of_le h, plcF]


set_option maxHeartbeats 400000 in
theorem Place_calls (v : Value) (xs : List Int) (n : Int) (w : World) (hx : Ints w v xs) :
    Calls Try.prog 45 #[v, .int .i64 n] w fun e w' => e = .returned (.int .i64 (plc xs n)) ∧ w' = w := by
  obtain ⟨hl, ⟨rfl, a, cap, rfl⟩ | ⟨b, off, cap, rfl, hcp, hb, hc⟩⟩ := hx
  · go_enter Try.func45, Try.ntmps45
    go_wp2
    go_loop [5] (fun i => i = .int .i64 0) (fun _ => 0)
    case atStart => rfl
    case round =>
      obtain rfl := hrel
      go_wp2
      go_ret
      exact ⟨rfl, rfl⟩
  · go_enter Try.func45, Try.ntmps45
    go_wp2
    go_loop [5] (fun i => ∃ k : Nat, k ≤ xs.length ∧ i = .int .i64 k ∧ Hid (plc xs n = plcF n (xs.drop k) k)) (fun i => xs.length - (intOf i).toNat)
    case atStart => exact ⟨0, Nat.zero_le _, rfl, rfl⟩
    case round =>
      obtain ⟨k, hk, rfl, hp⟩ := hrel
      by_cases hlt : k < xs.length
      · have hcell := hc k hlt
        have hs := Lib.hid (plcF_at n xs k hlt)
        clear hc
        go_wp2
        · go_ret
          exact ⟨ret_int (by rw [hp.out, hs.out, if_pos (by assumption)]), rfl⟩
        · go_round
          case rel => exact ⟨k + 1, by omega, by go_num, by unfold Hid; rw [hp.out, hs.out, if_neg (by simp only [*]; simp)]⟩
          case measure => simp [intOf]; omega
      · have hs := Lib.hid (plcF_end n xs k (by omega))
        clear hc
        go_wp2
        go_ret
        exact ⟨ret_int (by rw [hp.out, hs.out]), rfl⟩


def rth (xs : List Int) (a b : Int) : Bool := if b < 0 then decide (0 ≤ plc xs a) else decide (0 ≤ plc xs a) && decide (0 ≤ plc xs b) && decide (plc xs a < plc xs b)

set_option maxHeartbeats 400000 in
theorem Rather_calls (v : Value) (xs : List Int) (a b : Int) (w : World) (hx : Ints w v xs) :
    Calls Try.prog 79 #[v, .int .i64 a, .int .i64 b] w fun e w' => e = .returned (.bool (rth xs a b)) ∧ w' = w := by
  go_enter Try.func79, Try.ntmps79
  go_wp2_with (go_at_call 45; refine (Place_calls _ xs _ _ hx).mono ?_; rintro e w' ⟨rfl, rfl⟩)
  all_goals (go_ret; refine ⟨ret_bool ?_, rfl⟩; simp [rth, *])
  all_goals try omega

def pairB (ns ss : List (List Int)) (n s : Int) : Bool := decide (0 ≤ plc (row ns n.toNat) s) && decide (0 ≤ plc (row ss s.toNat) n)

/-- A book by value. -/
def Book (w : World) (nv sv : Value) (ns ss : List (List Int)) : Prop := Rows2 w nv ns ∧ Rows2 w sv ss




set_option maxHeartbeats 400000 in
theorem Pair_calls (nv sv : Value) (ns ss : List (List Int)) (n s : Nat) (w : World) (hn : Rows2 w nv ns) (hs : Rows2 w sv ss) (h1 : n < ns.length) (h2 : s < ss.length) :
    Calls Try.prog 55 #[.agg #[nv, sv], .int .i64 n, .int .i64 s] w (Gives (.bool (pairB ns ss n s)) w) := by
  obtain ⟨bn, on, cn, fn, rfl, hpn, hbn, hcn⟩ := hn.at h1
  obtain ⟨bs, os, cs, fs, rfl, hps, hbs, hcs⟩ := hs.at h2
  obtain ⟨hcn, hin⟩ := hcn n h1
  obtain ⟨hcs, his⟩ := hcs s h2
  have hl1 := hn.1
  have hl2 := hs.1
  clear hn hs
  go_enter Try.func55, Try.ntmps55
  go_wp2_with (go_at_call 45; first
    | ((with_reducible refine (Place_calls (fn n) (row ns n) _ _ ?_).mono ?_); exact hin.later (Later.new _ _); rintro e w' ⟨rfl, rfl⟩)
    | ((with_reducible refine (Place_calls (fs s) (row ss s) _ _ ?_).mono ?_); exact his.later (Later.new _ _); rintro e w' ⟨rfl, rfl⟩))
  all_goals go_ret
  all_goals refine ⟨ret_bool ?_, Later.new _ _, rfl⟩
  all_goals simp [pairB, *]
  all_goals omega
set_option maxHeartbeats 1000000 in
theorem Unsettles_calls (nv sv mv : Value) (ns ss : List (List Int)) (m : List Int) (n s : Nat) (w : World) (hn : Rows2 w nv ns) (hs : Rows2 w sv ss) (hm : Ints w mv m) (h1 : n < ns.length) (h2 : s < ss.length) (h3 : n < m.length) :
    Calls Try.prog 43 #[.agg #[nv, sv], mv, .int .i64 n, .int .i64 s] w (Gives (.bool (pairB ns ss n s && rth (row ns n) s (nth m n) && rth (row ss s) n (plc m s))) w) := by
  obtain ⟨bn, on, cn, fn, rfl, hpn, hbn, hcn⟩ := hn.at h1
  obtain ⟨bs, os, cs, fs, rfl, hps, hbs, hcs⟩ := hs.at h2
  obtain ⟨bm, om, cm, rfl, hpm, hbm, hcm⟩ := hm.at h3
  obtain ⟨hcn, hin⟩ := hcn n h1
  obtain ⟨hcs, his⟩ := hcs s h2
  have hcm := hcm n h3
  have hl1 := hn.1
  have hl2 := hs.1
  have hl3 := hm.1
  go_enter Try.func43, Try.ntmps43
  go_wp2_with fail
  refine region_later_lit (by kernel_rfl) (by kernel_rfl) ?_
  cases hp : pairB ns ss n s
  rotate_left
  cases hr : rth (row ns n) s (nth m n)
  all_goals
    repeat (first | simp only [hp] | simp only [hr] | go_big_quiet_step (first
     | (go_at_call 55; refine Later.quiet _ (Pair_calls _ _ ns ss n s _ ?_ ?_ h1 h2); exact (hn.later (Later.new _ _)).later _; exact (hs.later (Later.new _ _)).later _)
     | (go_at_call 45; refine Later.quiet_same _ (Place_calls _ m s _ ?_); exact (hm.later (Later.new _ _)).later _)
     | (go_at_call 79; (with_reducible refine Later.quiet_same _ (Rather_calls (fn n) (row ns n) _ _ _ ?_)); exact (hin.later (Later.new _ _)).later _)
     | (go_at_call 79; (with_reducible refine Later.quiet_same _ (Rather_calls (fs s) (row ss s) _ _ _ ?_)); exact (his.later (Later.new _ _)).later _)))
    refine wpQuiet_nil ?_
    intro x
    go_wp2
    go_ret
  · exact ⟨ret_bool (by simp [hp, hr]), (Later.new _ _).step x, rfl⟩
  · exact ⟨ret_bool (by simp [hp, hr]), (Later.new _ _).step x, rfl⟩
  · exact ⟨ret_bool (by simp [hp]), (Later.new _ _).step x, rfl⟩
end Go.Proofs.Ytieaibebnkdmhaa
