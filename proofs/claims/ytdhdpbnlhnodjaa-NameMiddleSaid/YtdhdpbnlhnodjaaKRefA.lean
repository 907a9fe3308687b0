import Derived.Test.YtdhdpbnlhnodjaaKOwn
import Derived.Test.YtdhdpbnlhnodjaaKBase
import Derived.Laws.Bits128
/-  The definitions' small functions: places, lists, CheckSheet. -/
namespace Go.Proofs.Ytdhdpbnlhnodjaa
open Go.RowKit

set_option maxHeartbeats 1000000 in
theorem isPlace_calls (n p : Int) (h : 1 ≤ n ∧ n ≤ 10) (W : World) : Calls Try.prog 58 #[.int .i64 n, .int .i64 p] W fun e w' => e = .returned (.bool (isPl n p)) ∧ w' = W := by
  have e1 : IntKind.i64.wrap (2 * n) = 2 * n := IntWalk.i64_in _ (by omega)
  by_cases h0 : 0 ≤ p
  · have hr := Lib.hid (show isPl n p = decide (p < 2 * n) by rw [isPl, decide_eq_true h0]; rfl)
    go_enter Try.func58, Try.ntmps58
    go_wp2
    go_ret
    exact ⟨ret_bool hr.out.symm, rfl⟩
  · have hr := Lib.hid (show isPl n p = false by rw [isPl, decide_eq_false h0]; rfl)
    go_enter Try.func58, Try.ntmps58
    go_wp2
    go_ret
    exact ⟨ret_bool hr.out.symm, rfl⟩
theorem isPlace_b (n p : Int) (h : 1 ≤ n ∧ n ≤ 10) {b : Bool} (hb : isPl n p = b) : ∀ W, Calls Try.prog 58 #[.int .i64 n, .int .i64 p] W fun e w' => e = .returned (.bool b) ∧ w' = W := fun W => by
  subst hb; exact isPlace_calls n p h W
theorem any_snoc {α : Type} {l : List α} {f : α → Bool} {d : α} {k : Nat} (h : ∀ j, j < k → f (l.getD j d) = false) (hk : f (l.getD k d) = false) : ∀ j, j < k + 1 → f (l.getD j d) = false := fun j hj => by
  rcases Nat.lt_or_ge j k with h1 | h1
  · exact h j h1
  · have : j = k := by omega
    subst this; exact hk
theorem any_at {α : Type} {l : List α} {f : α → Bool} {d : α} {k : Nat} (hk : k < l.length) (h : f (l.getD k d) = true) : l.any f = true := by
  rw [List.any_eq_true]
  exact ⟨l[k], List.getElem_mem hk, by simpa [hk] using h⟩
theorem any_get {α : Type} {l : List α} {f : α → Bool} {d : α} {k : Nat} (h : l.any f = false) (hk : k < l.length) : f (l.getD k d) = false := by
  rw [List.any_eq_false] at h
  have := h _ (List.getElem_mem hk)
  have e : l.getD k d = l[k] := by simp [hk]
  rw [e]
  simpa using this
theorem any_off {α : Type} {l : List α} {f : α → Bool} {d : α} (h : ∀ j, j < l.length → f (l.getD j d) = false) : l.any f = false := by
  rw [List.any_eq_false]
  intro x hx
  obtain ⟨i, hi, rfl⟩ := List.mem_iff_getElem.1 hx
  have := h i hi
  simp [hi] at this
  simp [this]
/-- what is wrong with a pair, with a place -/
def strayB (n : Int) (m : Int × Int) : Bool := !isPl n m.1 || !isPl n m.2
def ownB (m : Int × Int) : Bool := m.1 / 2 == m.2 / 2
theorem vsheet_eq (n : Int) (ms : List (Int × Int)) (cs : List Int) : vsheet n ms cs = if n < 1 ∨ 10 < n ∨ 40 < ms.length ∨ 20 < cs.length then 6 else if ms.any (strayB n) = true ∨ (cs.any fun c => !isPl n c) = true then 3 else if ms.any ownB = true then 16 else 0 := rfl
set_option maxRecDepth 100000 in
set_option maxHeartbeats 4000000 in
theorem refCheckSheet_calls (n : Int) (mv cv : Value) (ms : List (Int × Int)) (cs : List Int) (W : World) (hs : Sht W mv cv ms cs) :
    Calls Try.prog 21 #[.agg #[.int .i64 n, mv, cv]] W (Gives (.int .i64 (vsheet n ms cs)) W) := by
  obtain ⟨am, lm, cm, rfl⟩ : ∃ a n c, mv = .slice a n c := by obtain ⟨a, c, e⟩ := hs.m.form; exact ⟨a, _, c, e⟩
  obtain ⟨ac, lc, cc, rfl⟩ : ∃ a n c, cv = .slice a n c := by obtain ⟨a, c, e⟩ := hs.c.form; exact ⟨a, _, c, e⟩
  have HLM := Lib.hid (show lm = ms.length by obtain ⟨a, c, e⟩ := hs.m.form; cases e; rfl)
  have HLC := Lib.hid (show lc = cs.length by obtain ⟨a, c, e⟩ := hs.c.form; cases e; rfl)
  have hml := hs.m.1
  have hcl := hs.c.1
  go_enter Try.func21, Try.ntmps21
  go_wp2
  · go_ret
    exact ⟨ret_int (by have := HLM.out; have := HLC.out; rw [vsheet_eq, if_pos (by omega)]), Later.new _ _, rfl⟩
  rotate_left
  · go_ret
    exact ⟨ret_int (by have := HLM.out; have := HLC.out; rw [vsheet_eq, if_pos (by omega)]), Later.new _ _, rfl⟩
  · go_ret
    exact ⟨ret_int (by have := HLM.out; have := HLC.out; rw [vsheet_eq, if_pos (by omega)]), Later.new _ _, rfl⟩
  · go_ret
    exact ⟨ret_int (by have := HLM.out; have := HLC.out; rw [vsheet_eq, if_pos (by omega)]), Later.new _ _, rfl⟩
  have hn : 1 ≤ n ∧ n ≤ 10 := by omega
  have HG := Lib.hid (show vsheet n ms cs = if ms.any (strayB n) = true ∨ (cs.any fun c => !isPl n c) = true then 3 else if ms.any ownB = true then 16 else 0 by have := HLM.out; have := HLC.out; rw [vsheet_eq, if_neg (by omega)])
  obtain ⟨B, hB⟩ : ∃ B, B = W.heap.size := ⟨_, rfl⟩
  obtain ⟨z, hz⟩ : ∃ z : Later W, z.w = W.alloc (.cells #[.int .i64 n, .slice am lm cm, .slice ac lc cc] 25) := ⟨Later.new _ _, rfl⟩
  have c0 : z.w.cell? ⟨B, 0, none⟩ = some (.int .i64 n) := by rw [hz, hB]; simp [go_sem]
  have c1 : z.w.cell? ⟨B, 1, none⟩ = some (.slice am lm cm) := by rw [hz, hB]; simp [go_sem]
  have c2 : z.w.cell? ⟨B, 2, none⟩ = some (.slice ac lc cc) := by rw [hz, hB]; simp [go_sem]
  have hBz : B < z.w.heap.size := by rw [hz, hB]; simp [go_sem]
  rw [← hz, ← hB]
  replace hs := hs.later z
  
  clear hz hB
  go_loopw [3] (fun i wr => ∃ (k : Nat) (x : Later z.w), wr = x.w ∧ k ≤ lm ∧ i = .int .i64 k ∧ Hid (∀ j, j < k → strayB n (pr ms j) = false)) (fun i _ => lm - (intOf i).toNat)
  case atStart => exact ⟨0, Later.self _, rfl, Nat.zero_le _, rfl, fun j hj => absurd hj (Nat.not_lt_zero _)⟩
  case round =>
    obtain ⟨k, x, rfl, hk, rfl, hP⟩ := hrel
    have g0 : x.w.cell? ⟨B, 0, none⟩ = some (.int .i64 n) := ((x).cell hBz).trans c0
    have g1 : x.w.cell? ⟨B, 1, none⟩ = some (.slice am lm cm) := ((x).cell hBz).trans c1
    have g2 : x.w.cell? ⟨B, 2, none⟩ = some (.slice ac lc cc) := ((x).cell hBz).trans c2
    have gB : B < x.w.heap.size := Nat.lt_of_lt_of_le hBz (x).size
    by_cases hlt : k < lm
    · obtain ⟨bm, om, km, e, hkm, hbm, hgm⟩ := hs.m.at (k := k) (by rw [← HLM.out]; exact hlt)
      injection e with e1 e2 e3
      subst e1
      have gm := hgm k (by rw [← HLM.out]; exact hlt)
      have m1 := (x.cell hbm).trans gm.1
      have m2 := (x.cell hbm).trans gm.2
      have ml := Nat.lt_of_lt_of_le hbm x.size
      obtain ⟨p1, hp1⟩ : ∃ p, (pr ms k).1 = p := ⟨_, rfl⟩
      obtain ⟨p2, hp2⟩ : ∃ p, (pr ms k).2 = p := ⟨_, rfl⟩
      rw [hp1] at m1
      rw [hp2] at m2
      have HSB := Lib.hid (show strayB n (pr ms k) = (!isPl n p1 || !isPl n p2) by rw [strayB, hp1, hp2])
      clear e2 e3 hgm gm hkm hp1 hp2
      cases hb1 : isPl n p1
      · have P1 := Lib.hid (isPlace_b n p1 hn hb1)
        go_wp2
        refine region_later_lit (by kernel_rfl) (by kernel_rfl) ?_
        repeat (first | go_big_quiet_step (first
             | (go_at_call 58; exact Later.quiet_same _ (P1.out _))))
        refine wpQuiet_nil ?_
        intro y
        go_wp2
        go_ret
        exact ⟨ret_int (by rw [HG.out, if_pos (.inl (any_at (d := (0, 0)) (k := k) (by rw [← HLM.out]; exact hlt) (show strayB n (pr ms k) = true by rw [HSB.out, hb1]; rfl)))]), (z.step x).step y, rfl⟩
      · have P1 := Lib.hid (isPlace_b n p1 hn hb1)
        cases hb2 : isPl n p2
        · have P2 := Lib.hid (isPlace_b n p2 hn hb2)
          go_wp2
          refine region_later_lit (by kernel_rfl) (by kernel_rfl) ?_
          repeat (first | go_big_quiet_step (first
               | (go_at_call 58; first | (with_reducible exact Later.quiet_same _ (P1.out _)) | (with_reducible exact Later.quiet_same _ (P2.out _)))))
          refine wpQuiet_nil ?_
          intro y
          go_wp2
          go_ret
          exact ⟨ret_int (by rw [HG.out, if_pos (.inl (any_at (d := (0, 0)) (k := k) (by rw [← HLM.out]; exact hlt) (show strayB n (pr ms k) = true by rw [HSB.out, hb1, hb2]; rfl)))]), (z.step x).step y, rfl⟩
        · have P2 := Lib.hid (isPlace_b n p2 hn hb2)
          go_wp2
          refine region_later_lit (by kernel_rfl) (by kernel_rfl) ?_
          repeat (first | go_big_quiet_step (first
               | (go_at_call 58; first | (with_reducible exact Later.quiet_same _ (P1.out _)) | (with_reducible exact Later.quiet_same _ (P2.out _)))))
          refine wpQuiet_nil ?_
          intro y
          go_wp2
          go_roundw
          case rel => exact ⟨k + 1, x.step y, rfl, by omega, by go_num, any_snoc (d := (0, 0)) hP.out (show strayB n (pr ms k) = false by rw [HSB.out, hb1, hb2]; rfl)⟩
          case measure => simp [intOf]; omega
    · obtain rfl : lm = k := by omega
      have HM0 := Lib.hid (any_off (l := ms) (d := (0, 0)) fun j hj => hP.out j (by rw [HLM.out]; exact hj))
      clear hP g0 g1 g2 gB
      go_wp2
      go_loopw [4] (fun i wr => ∃ (k : Nat) (u : Later z.w), wr = u.w ∧ k ≤ lc ∧ i = .int .i64 k ∧ Hid (∀ j, j < k → (!isPl n (nth cs j)) = false)) (fun i _ => lc - (intOf i).toNat)
      case atStart => exact ⟨0, x, rfl, Nat.zero_le _, rfl, fun j hj => absurd hj (Nat.not_lt_zero _)⟩
      case round =>
        obtain ⟨k, u, rfl, hk, rfl, hP⟩ := hrel
        have g0 : u.w.cell? ⟨B, 0, none⟩ = some (.int .i64 n) := ((u).cell hBz).trans c0
        have g1 : u.w.cell? ⟨B, 1, none⟩ = some (.slice am lm cm) := ((u).cell hBz).trans c1
        have g2 : u.w.cell? ⟨B, 2, none⟩ = some (.slice ac lc cc) := ((u).cell hBz).trans c2
        have gB : B < u.w.heap.size := Nat.lt_of_lt_of_le hBz (u).size
        by_cases hlt : k < lc
        · obtain ⟨bm, om, km, e, hkm, hbm, hgm⟩ := hs.c.at (k := k) (by rw [← HLC.out]; exact hlt)
          injection e with e1 e2 e3
          subst e1
          have m1 := (u.cell hbm).trans (hgm k (by rw [← HLC.out]; exact hlt))
          have ml := Nat.lt_of_lt_of_le hbm u.size
          obtain ⟨p1, hp1⟩ : ∃ p, nth cs k = p := ⟨_, rfl⟩
          rw [hp1] at m1
          have HSB := Lib.hid hp1
          clear e2 e3 hgm hkm hp1
          cases hb1 : isPl n p1
          · have P1 := Lib.hid (isPlace_b n p1 hn hb1)
            go_wp2
            refine region_later_lit (by kernel_rfl) (by kernel_rfl) ?_
            repeat (first | go_big_quiet_step (first
                 | (go_at_call 58; exact Later.quiet_same _ (P1.out _))))
            refine wpQuiet_nil ?_
            intro y
            go_wp2
            go_ret
            exact ⟨ret_int (by rw [HG.out, if_pos (.inr (any_at (d := 0) (k := k) (f := fun c => !isPl n c) (by rw [← HLC.out]; exact hlt) (show (!isPl n (nth cs k)) = true by rw [HSB.out, hb1]; rfl)))]), (z.step u).step y, rfl⟩
          · have P1 := Lib.hid (isPlace_b n p1 hn hb1)
            go_wp2
            refine region_later_lit (by kernel_rfl) (by kernel_rfl) ?_
            repeat (first | go_big_quiet_step (first
                 | (go_at_call 58; exact Later.quiet_same _ (P1.out _))))
            refine wpQuiet_nil ?_
            intro y
            go_wp2
            go_roundw
            case rel => exact ⟨k + 1, u.step y, rfl, by omega, by go_num, any_snoc (l := cs) (d := 0) (f := fun c => !isPl n c) hP.out (show (!isPl n (nth cs k)) = false by rw [HSB.out, hb1]; rfl)⟩
            case measure => simp [intOf]; omega
        · obtain rfl : lc = k := by omega
          have HC0 := Lib.hid (any_off (l := cs) (d := 0) (f := fun c => !isPl n c) fun j hj => hP.out j (by rw [HLC.out]; exact hj))
          have HG2 := Lib.hid (show vsheet n ms cs = if ms.any ownB = true then 16 else 0 by rw [HG.out, if_neg (by rw [HM0.out, HC0.out]; simp)])
          clear hP g0 g1 g2 gB
          go_wp2
          go_loopw [5] (fun i wr => ∃ (k : Nat) (v : Later z.w), wr = v.w ∧ k ≤ lm ∧ i = .int .i64 k ∧ Hid (∀ j, j < k → ownB (pr ms j) = false)) (fun i _ => lm - (intOf i).toNat)
          case atStart => exact ⟨0, u, rfl, Nat.zero_le _, rfl, fun j hj => absurd hj (Nat.not_lt_zero _)⟩
          case round =>
            obtain ⟨k, v, rfl, hk, rfl, hP⟩ := hrel
            have g0 : v.w.cell? ⟨B, 0, none⟩ = some (.int .i64 n) := ((v).cell hBz).trans c0
            have g1 : v.w.cell? ⟨B, 1, none⟩ = some (.slice am lm cm) := ((v).cell hBz).trans c1
            have g2 : v.w.cell? ⟨B, 2, none⟩ = some (.slice ac lc cc) := ((v).cell hBz).trans c2
            have gB : B < v.w.heap.size := Nat.lt_of_lt_of_le hBz (v).size
            by_cases hlt : k < lm
            · obtain ⟨bm, om, km, e, hkm, hbm, hgm⟩ := hs.m.at (k := k) (by rw [← HLM.out]; exact hlt)
              injection e with e1 e2 e3
              subst e1
              have gm := hgm k (by rw [← HLM.out]; exact hlt)
              have m1 := (v.cell hbm).trans gm.1
              have m2 := (v.cell hbm).trans gm.2
              have ml := Nat.lt_of_lt_of_le hbm v.size
              obtain ⟨p1, hp1⟩ : ∃ p, (pr ms k).1 = p := ⟨_, rfl⟩
              obtain ⟨p2, hp2⟩ : ∃ p, (pr ms k).2 = p := ⟨_, rfl⟩
              rw [hp1] at m1
              rw [hp2] at m2
              have HSB := Lib.hid (show ownB (pr ms k) = (p1 / 2 == p2 / 2) by rw [ownB, hp1, hp2])
              have hpl := hP
              have hi1 : 0 ≤ p1 ∧ p1 < 20 ∧ 0 ≤ p2 ∧ p2 < 20 := by
                have h9 := any_get HM0.out (d := (0, 0)) (k := k) (by rw [← HLM.out]; exact hlt)
                have h8 : strayB n (pr ms k) = false := h9
                rw [strayB, hp1, hp2, Bool.or_eq_false_iff, Bool.not_eq_false', Bool.not_eq_false', isPl, isPl, Bool.and_eq_true, Bool.and_eq_true, decide_eq_true_iff, decide_eq_true_iff, decide_eq_true_iff, decide_eq_true_iff] at h8
                omega
              clear e2 e3 hgm gm hkm hp1 hp2 hpl
              cases hb1 : (p1 / 2 == p2 / 2)
              · go_wp2
                refine region_later_lit (by kernel_rfl) (by kernel_rfl) ?_
                repeat (first | simp only [hb1] | go_big_quiet_step (first
                     | (fail)))
                refine wpQuiet_nil ?_
                intro y
                go_wp2
                go_roundw
                case rel => exact ⟨k + 1, v.step y, rfl, by omega, by go_num, any_snoc (l := ms) (d := (0, 0)) (f := ownB) hP.out (show ownB (pr ms k) = false by rw [HSB.out, hb1])⟩
                case measure => simp [intOf]; omega
              · go_wp2
                refine region_later_lit (by kernel_rfl) (by kernel_rfl) ?_
                repeat (first | simp only [hb1] | go_big_quiet_step (first
                     | (fail)))
                refine wpQuiet_nil ?_
                intro y
                go_wp2
                go_ret
                exact ⟨ret_int (by rw [HG2.out, if_pos (any_at (l := ms) (d := (0, 0)) (f := ownB) (k := k) (by rw [← HLM.out]; exact hlt) (show ownB (pr ms k) = true by rw [HSB.out, hb1]))]), (z.step v).step y, rfl⟩
            · obtain rfl : lm = k := by omega
              have HO := Lib.hid (any_off (l := ms) (d := (0, 0)) (f := ownB) fun j hj => hP.out j (by rw [HLM.out]; exact hj))
              go_wp2
              go_ret
              exact ⟨ret_int (by rw [HG2.out, if_neg (by rw [HO.out]; simp)]), z.step v, rfl⟩

end Go.Proofs.Ytdhdpbnlhnodjaa

/-  The definitions' functions: Has, Mate, Meet, Steps. -/
namespace Go.Proofs.Ytdhdpbnlhnodjaa
open Go.RowKit
attribute [local go_sem] run_eq_pair

def hasB (xs : List Int) (n : Int) : Bool := xs.any fun x => x == n
set_option maxHeartbeats 1000000 in
theorem Has_calls (v : Value) (xs : List Int) (n : Int) (W : World) (hx : Ints W v xs) : Calls Try.prog 43 #[v, .int .i64 n] W fun e w' => e = .returned (.bool (hasB xs n)) ∧ w' = W := by
  have hl := hx.1
  obtain ⟨a, nn, c, rfl⟩ : ∃ a n c, v = .slice a n c := by obtain ⟨a, c, e⟩ := hx.form; exact ⟨a, _, c, e⟩
  have HN := Lib.hid (show nn = xs.length by obtain ⟨a, c, e⟩ := hx.form; cases e; rfl)
  have hl2 : nn ≤ 9007199254740992 := by rw [HN.out]; exact hl
  go_enter Try.func43, Try.ntmps43
  go_wp2
  go_loopw [5] (fun i wr => ∃ (k : Nat), wr = W ∧ k ≤ nn ∧ i = .int .i64 k ∧ Hid (∀ j, j < k → (nth xs j == n) = false)) (fun i _ => nn - (intOf i).toNat)
  case atStart => exact ⟨0, rfl, Nat.zero_le _, rfl, fun j hj => absurd hj (Nat.not_lt_zero _)⟩
  case round =>
    obtain ⟨k, rfl, hk, rfl, hP⟩ := hrel
    by_cases hlt : k < nn
    · obtain ⟨bm, om, km, e, hkm, hbm, hgm⟩ := hx.at (k := k) (by rw [← HN.out]; exact hlt)
      injection e with e1 e2 e3
      subst e1
      have m1 := hgm k (by rw [← HN.out]; exact hlt)
      obtain ⟨p1, hp1⟩ : ∃ p, nth xs k = p := ⟨_, rfl⟩
      rw [hp1] at m1
      have HSB := Lib.hid hp1
      clear e2 e3 hgm hkm hp1
      cases hb1 : (p1 == n)
      · go_wp2
        go_roundw
        case rel => exact ⟨k + 1, by trivial, by omega, by go_num, any_snoc (l := xs) (d := 0) (f := fun x => x == n) hP.out (show (nth xs k == n) = false by rw [HSB.out, hb1])⟩
        case measure => simp [intOf]; omega
      · go_wp2
        go_ret
        exact ⟨ret_bool (any_at (l := xs) (d := 0) (f := fun x => x == n) (k := k) (by rw [← HN.out]; exact hlt) (show (nth xs k == n) = true by rw [HSB.out, hb1])).symm, rfl⟩
    · obtain rfl : nn = k := by omega
      have HC0 := Lib.hid (any_off (l := xs) (d := 0) (f := fun x => x == n) fun j hj => hP.out j (by rw [HN.out]; exact hj))
      go_wp2
      go_ret
      exact ⟨ret_bool HC0.out.symm, rfl⟩
set_option maxHeartbeats 1000000 in
theorem refMate_calls (p : Nat) (hp : p < 1000) (W : World) : Calls Try.prog 46 #[.int .i64 (p : Int)] W fun e w' => e = .returned (.int .i64 (Sat.mate p : Nat)) ∧ w' = W := by
  obtain ⟨r, hr⟩ : ∃ r, p % 2 = r := ⟨_, rfl⟩
  have er : (p : Int) % 2 = (r : Int) := by rw [← hr]; omega
  have hr2 : r < 2 := by omega
  have hv := Lib.hid (show (p : Int) - r + 1 - r = (Sat.mate p : Nat) by rw [Sat.mate]; split <;> omega)
  clear hr
  go_enter Try.func46, Try.ntmps46
  go_wp2
  go_ret
  exact ⟨ret_int hv.out, rfl⟩
theorem nat_beq (p a : Nat) : (p == a) = ((p : Int) == (a : Int)) := by
  rw [Bool.eq_iff_iff]; simp; omega
set_option maxRecDepth 100000 in
set_option maxHeartbeats 2000000 in
theorem Meet_calls (n : Nat) (mv cv : Value) (mn : List (Nat × Nat)) (cs : List Int) (a b : Nat) (W : World) (hs : Sht W mv cv (mn.map prI) cs) :
    Calls Try.prog 86 #[.agg #[.int .i64 n, mv, cv], .int .i64 (a : Int), .int .i64 (b : Int)] W (Gives (.bool (Sat.meetP mn a b)) W) := by
  obtain ⟨ms, hms⟩ : ∃ ms, mn.map prI = ms := ⟨_, rfl⟩
  rw [hms] at hs
  have HMS := Lib.hid hms
  clear hms
  obtain ⟨am, lm, cm, rfl⟩ : ∃ a n c, mv = .slice a n c := by obtain ⟨a, c, e⟩ := hs.m.form; exact ⟨a, _, c, e⟩
  obtain ⟨ac, lc, cc, rfl⟩ : ∃ a n c, cv = .slice a n c := by obtain ⟨a, c, e⟩ := hs.c.form; exact ⟨a, _, c, e⟩
  have HLM := Lib.hid (show lm = ms.length by obtain ⟨a, c, e⟩ := hs.m.form; cases e; rfl)
  have HLC := Lib.hid (show lc = cs.length by obtain ⟨a, c, e⟩ := hs.c.form; cases e; rfl)
  have hml := hs.m.1
  have hl2 : lm ≤ 9007199254740992 := by rw [HLM.out]; exact hml
  go_enter Try.func86, Try.ntmps86
  go_wp2
  obtain ⟨B, hB⟩ : ∃ B, B = W.heap.size := ⟨_, rfl⟩
  obtain ⟨z, hz⟩ : ∃ z : Later W, z.w = W.alloc (.cells #[.int .i64 n, .slice am lm cm, .slice ac lc cc] 25) := ⟨Later.new _ _, rfl⟩
  have c0 : z.w.cell? ⟨B, 0, none⟩ = some (.int .i64 n) := by rw [hz, hB]; simp [go_sem]
  have c1 : z.w.cell? ⟨B, 1, none⟩ = some (.slice am lm cm) := by rw [hz, hB]; simp [go_sem]
  have c2 : z.w.cell? ⟨B, 2, none⟩ = some (.slice ac lc cc) := by rw [hz, hB]; simp [go_sem]
  have hBz : B < z.w.heap.size := by rw [hz, hB]; simp [go_sem]
  rw [← hz, ← hB]
  replace hs := hs.later z
  
  clear hz hB
  go_loopw [7] (fun i wr => ∃ (k : Nat), wr = z.w ∧ k ≤ lm ∧ i = .int .i64 k ∧ Hid (∀ j, j < k → ((mn.getD j (0, 0)).1 == a && (mn.getD j (0, 0)).2 == b || (mn.getD j (0, 0)).1 == b && (mn.getD j (0, 0)).2 == a) = false)) (fun i _ => lm - (intOf i).toNat)
  case atStart => exact ⟨0, rfl, Nat.zero_le _, rfl, fun j hj => absurd hj (Nat.not_lt_zero _)⟩
  case round =>
    obtain ⟨k, rfl, hk, rfl, hP⟩ := hrel
    by_cases hlt : k < lm
    · obtain ⟨bm, om, km, e, hkm, hbm, hgm⟩ := hs.m.at (k := k) (by rw [← HLM.out]; exact hlt)
      injection e with e1 e2 e3
      subst e1
      have gm := hgm k (by rw [← HLM.out]; exact hlt)
      have m1 := gm.1
      have m2 := gm.2
      obtain ⟨q, hq⟩ : ∃ q, mn.getD k (0, 0) = q := ⟨_, rfl⟩
      have hpr : pr ms k = prI q := by
        have hk9 : k < mn.length := by have := HLM.out; rw [← HMS.out, List.length_map] at this; omega
        rw [← HMS.out, ← hq]
        simp [pr, hk9]
      rw [hpr] at m1 m2
      obtain ⟨p1, p2⟩ := q
      have HQ := Lib.hid hq
      rw [show (prI (p1, p2)).1 = (p1 : Int) from rfl] at m1
      rw [show (prI (p1, p2)).2 = (p2 : Int) from rfl] at m2
      have HM := Lib.hid (show ((mn.getD k (0, 0)).1 == a && (mn.getD k (0, 0)).2 == b || (mn.getD k (0, 0)).1 == b && (mn.getD k (0, 0)).2 == a) = (((p1 : Int) == (a : Int) && (p2 : Int) == (b : Int)) || ((p1 : Int) == (b : Int) && (p2 : Int) == (a : Int))) by rw [hq, nat_beq, nat_beq, nat_beq, nat_beq])
      clear e2 e3 hgm gm hkm hq hpr
      cases hb1 : ((p1 : Int) == (a : Int) && (p2 : Int) == (b : Int))
      · cases hb2 : ((p1 : Int) == (b : Int) && (p2 : Int) == (a : Int))
        · go_wp2
          go_roundw
          case rel => exact ⟨k + 1, by trivial, by omega, by go_num, any_snoc (l := mn) (d := (0, 0)) (f := fun m => m.1 == a && m.2 == b || m.1 == b && m.2 == a) hP.out (by rw [HM.out, hb1, hb2]; rfl)⟩
          case measure => simp [intOf]; omega
        · go_wp2
          go_ret
          exact ⟨ret_bool (any_at (l := mn) (d := (0, 0)) (f := fun m => m.1 == a && m.2 == b || m.1 == b && m.2 == a) (k := k) (by have := HLM.out; rw [← HMS.out, List.length_map] at this; omega) (by rw [HM.out, hb1, hb2]; rfl)).symm, z, rfl⟩
      · go_wp2
        go_ret
        exact ⟨ret_bool (any_at (l := mn) (d := (0, 0)) (f := fun m => m.1 == a && m.2 == b || m.1 == b && m.2 == a) (k := k) (by have := HLM.out; rw [← HMS.out, List.length_map] at this; omega) (by rw [HM.out, hb1]; rfl)).symm, z, rfl⟩
    · obtain rfl : lm = k := by omega
      have HC0 := Lib.hid (any_off (l := mn) (d := (0, 0)) (f := fun m => m.1 == a && m.2 == b || m.1 == b && m.2 == a) fun j hj => hP.out j (by have := HLM.out; rw [← HMS.out, List.length_map] at this; omega))
      go_wp2
      go_ret
      exact ⟨ret_bool HC0.out.symm, z, rfl⟩

end Go.Proofs.Ytdhdpbnlhnodjaa

/-  The definitions' IsRight. -/
namespace Go.Proofs.Ytdhdpbnlhnodjaa
open Go.RowKit

/-- a setting uses a place -/
def sideB (st : List Int) (p : Int) : Bool := nth st (p / 2).toNat == p % 2
def bothB (st : List Int) (m : Int × Int) : Bool := sideB st m.1 && sideB st m.2
def rightI (ms : List (Int × Int)) (cs st : List Int) : Bool := !cs.any (sideB st) && !ms.any (bothB st)
set_option maxRecDepth 100000 in
set_option maxHeartbeats 4000000 in
theorem IsRight_calls (n : Int) (mv cv sv : Value) (ms : List (Int × Int)) (cs st : List Int) (W : World) (hs : Sht W mv cv ms cs) (hst : Ints W sv st) (hv : vsheet n ms cs = 0) (hl : (st.length : Int) = n) :
    Calls Try.prog 44 #[.agg #[.int .i64 n, mv, cv], sv] W (Gives (.bool (rightI ms cs st)) W) := by
  obtain ⟨am, lm, cm, rfl⟩ : ∃ a n c, mv = .slice a n c := by obtain ⟨a, c, e⟩ := hs.m.form; exact ⟨a, _, c, e⟩
  obtain ⟨ac, lc, cc, rfl⟩ : ∃ a n c, cv = .slice a n c := by obtain ⟨a, c, e⟩ := hs.c.form; exact ⟨a, _, c, e⟩
  have HLM := Lib.hid (show lm = ms.length by obtain ⟨a, c, e⟩ := hs.m.form; cases e; rfl)
  have HLC := Lib.hid (show lc = cs.length by obtain ⟨a, c, e⟩ := hs.c.form; cases e; rfl)
  have hml := hs.m.1
  have hcl := hs.c.1
  obtain ⟨as', ls, cs', rfl⟩ : ∃ a n c, sv = .slice a n c := by obtain ⟨a, c, e⟩ := hst.form; exact ⟨a, _, c, e⟩
  have HLS := Lib.hid (show ls = st.length by obtain ⟨a, c, e⟩ := hst.form; cases e; rfl)
  obtain ⟨k, hnk, h1, h10, h40, h20, hmr, hcr⟩ := vsheet_zero hv
  have hln : ls = k := by rw [HLS.out]; omega
  have HLN := Lib.hid hln
  have HMR := Lib.hid hmr
  have HCR := Lib.hid hcr
  have HNK := Lib.hid hnk
  have hl40 : lm ≤ 40 := by rw [HLM.out]; exact h40
  have hl20 : lc ≤ 20 := by rw [HLC.out]; exact h20
  have hls1 : 1 ≤ ls ∧ ls ≤ 10 := by omega
  obtain ⟨bs, os, ks, e, hks, hbs, hgs⟩ := hst.at (k := 0) (by rw [← HLS.out]; omega)
  injection e with e1 e2 e3
  subst e1
  have HGS := Lib.hid hgs
  clear hln hnk hmr hcr hv hl e2 e3 hgs h40 h20
  go_enter Try.func44, Try.ntmps44
  go_wp2
  obtain ⟨B, hB⟩ : ∃ B, B = W.heap.size := ⟨_, rfl⟩
  obtain ⟨z, hz⟩ : ∃ z : Later W, z.w = W.alloc (.cells #[.int .i64 n, .slice am lm cm, .slice ac lc cc] 25) := ⟨Later.new _ _, rfl⟩
  have c0 : z.w.cell? ⟨B, 0, none⟩ = some (.int .i64 n) := by rw [hz, hB]; simp [go_sem]
  have c1 : z.w.cell? ⟨B, 1, none⟩ = some (.slice am lm cm) := by rw [hz, hB]; simp [go_sem]
  have c2 : z.w.cell? ⟨B, 2, none⟩ = some (.slice ac lc cc) := by rw [hz, hB]; simp [go_sem]
  have hBz : B < z.w.heap.size := by rw [hz, hB]; simp [go_sem]
  rw [← hz, ← hB]
  replace hs := hs.later z
  replace hst := hst.later z
  clear hz hB
  have HGZ := Lib.hid (fun k (hk : k < st.length) => (z.cell (o := os + k) hbs).trans (HGS.out k hk))
  replace hbs := Nat.lt_of_lt_of_le hbs z.size
  go_loopw [5] (fun i wr => ∃ (k : Nat) (x : Later z.w), wr = x.w ∧ k ≤ lc ∧ i = .int .i64 k ∧ Hid (∀ j, j < k → sideB st (nth cs j) = false)) (fun i _ => lc - (intOf i).toNat)
  case atStart => exact ⟨0, Later.self _, rfl, Nat.zero_le _, rfl, fun j hj => absurd hj (Nat.not_lt_zero _)⟩
  case round =>
    obtain ⟨k, x, rfl, hk, rfl, hP⟩ := hrel
    have g0 : x.w.cell? ⟨B, 0, none⟩ = some (.int .i64 n) := ((x).cell hBz).trans c0
    have g1 : x.w.cell? ⟨B, 1, none⟩ = some (.slice am lm cm) := ((x).cell hBz).trans c1
    have g2 : x.w.cell? ⟨B, 2, none⟩ = some (.slice ac lc cc) := ((x).cell hBz).trans c2
    have gB : B < x.w.heap.size := Nat.lt_of_lt_of_le hBz (x).size
    by_cases hlt : k < lc
    · obtain ⟨bm, om, km, e, hkm, hbm, hgm⟩ := hs.c.at (k := k) (by rw [← HLC.out]; exact hlt)
      injection e with e1 e2 e3
      subst e1
      have m1 := (x.cell hbm).trans (hgm k (by rw [← HLC.out]; exact hlt))
      have ml := Nat.lt_of_lt_of_le hbm x.size
      have hc2 := HCR.out (nth cs k) (by rw [nth_eq (by rw [← HLC.out]; exact hlt)]; exact List.getElem_mem _)
      obtain ⟨P, hPe⟩ : ∃ P : Nat, nth cs k = (P : Int) := Int.eq_ofNat_of_zero_le hc2.1
      rw [hPe] at m1 hc2
      obtain ⟨a, ha⟩ : ∃ a, P / 2 = a := ⟨_, rfl⟩
      obtain ⟨b, hb⟩ : ∃ b, P % 2 = b := ⟨_, rfl⟩
      have ea : (P : Int) / 2 = (a : Int) := by omega
      have eb : (P : Int) % 2 = (b : Int) := by omega
      have hal : a < ls := by have := HLN.out; have := HNK.out; omega
      have s1 := (x.cell (o := os + a) hbs).trans (HGZ.out a (by rw [← HLS.out]; exact hal))
      have sl := Nat.lt_of_lt_of_le hbs x.size
      obtain ⟨v, hvv⟩ : ∃ v, nth st a = v := ⟨_, rfl⟩
      rw [hvv] at s1
      have HSB := Lib.hid (show sideB st (nth cs k) = (v == (b : Int)) by rw [sideB, hPe, ea, eb, Int.toNat_natCast, hvv])
      clear e2 e3 hgm hkm ha hb hPe hvv hc2
      cases hb1 : (v == (b : Int))
      · go_wp2
        refine region_later_lit (by kernel_rfl) (by kernel_rfl) ?_
        repeat (first | simp only [hb1] | go_big_quiet_step (first
             | (fail)))
        refine wpQuiet_nil ?_
        intro y
        go_wp2
        go_roundw
        case rel => exact ⟨k + 1, x.step y, rfl, by omega, by go_num, any_snoc (l := cs) (d := 0) (f := sideB st) hP.out (show sideB st (nth cs k) = false by rw [HSB.out, hb1])⟩
        case measure => simp [intOf]; omega
      · go_wp2
        refine region_later_lit (by kernel_rfl) (by kernel_rfl) ?_
        repeat (first | simp only [hb1] | go_big_quiet_step (first
             | (fail)))
        refine wpQuiet_nil ?_
        intro y
        go_wp2
        go_ret
        exact ⟨ret_bool (by rw [rightI, any_at (l := cs) (d := 0) (f := sideB st) (k := k) (by rw [← HLC.out]; exact hlt) (show sideB st (nth cs k) = true by rw [HSB.out, hb1])]; rfl), (z.step x).step y, rfl⟩
    · obtain rfl : lc = k := by omega
      have HC0 := Lib.hid (any_off (l := cs) (d := 0) (f := sideB st) fun j hj => hP.out j (by rw [HLC.out]; exact hj))
      clear hP g0 g1 g2 gB
      go_wp2
      go_loopw [6] (fun i wr => ∃ (k : Nat) (u : Later z.w), wr = u.w ∧ k ≤ lm ∧ i = .int .i64 k ∧ Hid (∀ j, j < k → bothB st (pr ms j) = false)) (fun i _ => lm - (intOf i).toNat)
      case atStart => exact ⟨0, x, rfl, Nat.zero_le _, rfl, fun j hj => absurd hj (Nat.not_lt_zero _)⟩
      case round =>
        obtain ⟨k, u, rfl, hk, rfl, hP⟩ := hrel
        have g0 : u.w.cell? ⟨B, 0, none⟩ = some (.int .i64 n) := ((u).cell hBz).trans c0
        have g1 : u.w.cell? ⟨B, 1, none⟩ = some (.slice am lm cm) := ((u).cell hBz).trans c1
        have g2 : u.w.cell? ⟨B, 2, none⟩ = some (.slice ac lc cc) := ((u).cell hBz).trans c2
        have gB : B < u.w.heap.size := Nat.lt_of_lt_of_le hBz (u).size
        by_cases hlt : k < lm
        · obtain ⟨bm, om, km, e, hkm, hbm, hgm⟩ := hs.m.at (k := k) (by rw [← HLM.out]; exact hlt)
          injection e with e1 e2 e3
          subst e1
          have gm := hgm k (by rw [← HLM.out]; exact hlt)
          have m1 := (u.cell hbm).trans gm.1
          have m2 := (u.cell hbm).trans gm.2
          have ml := Nat.lt_of_lt_of_le hbm u.size
          have hc2 := HMR.out (pr ms k) (by rw [pr_eq (by rw [← HLM.out]; exact hlt)]; exact List.getElem_mem _)
          obtain ⟨P, hPe⟩ : ∃ P : Nat, (pr ms k).1 = (P : Int) := Int.eq_ofNat_of_zero_le hc2.1
          obtain ⟨P2, hPe2⟩ : ∃ P : Nat, (pr ms k).2 = (P : Int) := Int.eq_ofNat_of_zero_le hc2.2.2.1
          rw [hPe] at m1 hc2
          rw [hPe2] at m2 hc2
          obtain ⟨a, ha⟩ : ∃ a, P / 2 = a := ⟨_, rfl⟩
          obtain ⟨b, hb⟩ : ∃ b, P % 2 = b := ⟨_, rfl⟩
          obtain ⟨a2, ha2⟩ : ∃ a, P2 / 2 = a := ⟨_, rfl⟩
          obtain ⟨b2, hb2⟩ : ∃ b, P2 % 2 = b := ⟨_, rfl⟩
          have ea : (P : Int) / 2 = (a : Int) := by omega
          have eb : (P : Int) % 2 = (b : Int) := by omega
          have ea2 : (P2 : Int) / 2 = (a2 : Int) := by omega
          have eb2 : (P2 : Int) % 2 = (b2 : Int) := by omega
          have hal : a < ls := by have := HLN.out; have := HNK.out; omega
          have hal2 : a2 < ls := by have := HLN.out; have := HNK.out; omega
          obtain ⟨v, hvv⟩ : ∃ v, nth st a = v := ⟨_, rfl⟩
          obtain ⟨v2, hvv2⟩ : ∃ v, nth st a2 = v := ⟨_, rfl⟩
          have HSB := Lib.hid (show bothB st (pr ms k) = ((v == (b : Int)) && (v2 == (b2 : Int))) by rw [bothB, sideB, sideB, hPe, hPe2, ea, eb, ea2, eb2, Int.toNat_natCast, Int.toNat_natCast, hvv, hvv2])
          have S1 := Lib.hid (show ∀ V : Later u.w, V.w.cell? ⟨bs, os + a, none⟩ = some (.int .i64 v) from fun V => by rw [← hvv]; exact ((u.step V).cell (o := os + a) hbs).trans (HGZ.out a (by rw [← HLS.out]; exact hal)))
          have S2 := Lib.hid (show ∀ V : Later u.w, V.w.cell? ⟨bs, os + a2, none⟩ = some (.int .i64 v2) from fun V => by rw [← hvv2]; exact ((u.step V).cell (o := os + a2) hbs).trans (HGZ.out a2 (by rw [← HLS.out]; exact hal2)))
          clear e2 e3 hgm hkm ha hb ha2 hb2 hPe hPe2 hvv hvv2 hc2 gm
          go_wp2
          refine region_later_lit (by kernel_rfl) (by kernel_rfl) ?_
          repeat (first | go_big_quiet_step (first
               | (fail)))
          refine wpQuiet_nil ?_
          intro y
          have s1 := S1.out y
          have s2 := S2.out y
          have sl := Nat.lt_of_lt_of_le hbs (u.step y).size
          rw [Later.step_w] at sl
          cases hb1 : (v == (b : Int))
          · go_wp2
            go_roundw
            case rel => exact ⟨k + 1, u.step y, rfl, by omega, by go_num, any_snoc (l := ms) (d := (0, 0)) (f := bothB st) hP.out (show bothB st (pr ms k) = false by rw [HSB.out, hb1]; rfl)⟩
            case measure => simp [intOf]; omega
          · cases hb2 : (v2 == (b2 : Int))
            · go_wp2
              go_roundw
              case rel => exact ⟨k + 1, u.step y, rfl, by omega, by go_num, any_snoc (l := ms) (d := (0, 0)) (f := bothB st) hP.out (show bothB st (pr ms k) = false by rw [HSB.out, hb1, hb2]; rfl)⟩
              case measure => simp [intOf]; omega
            · go_wp2
              go_ret
              exact ⟨ret_bool (by rw [rightI, any_at (l := ms) (d := (0, 0)) (f := bothB st) (k := k) (by rw [← HLM.out]; exact hlt) (show bothB st (pr ms k) = true by rw [HSB.out, hb1, hb2]; rfl)]; simp), (z.step u).step y, rfl⟩
        · obtain rfl : lm = k := by omega
          have HO := Lib.hid (any_off (l := ms) (d := (0, 0)) (f := bothB st) fun j hj => hP.out j (by rw [HLM.out]; exact hj))
          go_wp2
          go_ret
          exact ⟨ret_bool (by rw [rightI, HC0.out, HO.out]; rfl), z.step u, rfl⟩

end Go.Proofs.Ytdhdpbnlhnodjaa

/-  All right settings of names: one by one, by bits. -/
namespace Go.Proofs.Ytdhdpbnlhnodjaa
open Go.RowKit
open Sat (at0 sidesL plc setL bitsL rightP One)

theorem nth_at0 (l : List Int) (k : Nat) : nth l k = at0 l k := rfl
theorem sideB_nat {n : Nat} {ps : List Nat} (h1 : One ps) {p : Nat} (hp : p < 2 * n) : sideB (setL n ps) (p : Int) = decide (p ∈ ps) := by
  have h := Sat.setL_side (n := n) h1 (p := p) (by omega)
  rw [sideB, nth_at0, show ((p : Int) / 2).toNat = p / 2 by omega, show (p : Int) % 2 = ((p % 2 : Nat) : Int) by omega, Bool.eq_iff_iff, beq_iff_eq, decide_eq_true_iff]
  exact h
theorem rightI_nat {n : Nat} {mn : List (Nat × Nat)} {cn : List Nat} (hS : Shn n mn cn) {ps : List Nat} (h1 : One ps) : rightI (mn.map prI) (cn.map fun (c : Nat) => (c : Int)) (setL n ps) = rightP mn cn ps := by
  have e1 : ∀ (l : List Nat), (∀ c ∈ l, c < 2 * n) → (!(l.map fun (c : Nat) => (c : Int)).any (sideB (setL n ps))) = l.all fun c => !decide (c ∈ ps) := by
    intro l
    induction l with
    | nil => intro _; rfl
    | cons c l ih =>
      intro h
      rw [List.map_cons, List.any_cons, List.all_cons, Bool.not_or, ih fun x hx => h x (by simp [hx]), sideB_nat h1 (h c (by simp))]
  have e2 : ∀ (l : List (Nat × Nat)), (∀ m ∈ l, m.1 < 2 * n ∧ m.2 < 2 * n) → (!(l.map prI).any (bothB (setL n ps))) = l.all fun m => !(decide (m.1 ∈ ps) && decide (m.2 ∈ ps)) := by
    intro l
    induction l with
    | nil => intro _; rfl
    | cons c l ih =>
      intro h
      have hc := h c (by simp)
      rw [List.map_cons, List.any_cons, List.all_cons, Bool.not_or, ih fun x hx => h x (by simp [hx])]
      rw [show bothB (setL n ps) (prI c) = (decide (c.1 ∈ ps) && decide (c.2 ∈ ps)) by rw [bothB, prI, sideB_nat h1 hc.1, sideB_nat h1 hc.2]]
  rw [rightI, rightP, e1 cn hS.cr, e2 mn hS.mr]
theorem plc_take_succ {N bs : List Nat} {i : Nat} (h1 : i < N.length) (h2 : i < bs.length) : plc (N.take (i + 1)) (bs.take (i + 1)) = plc (N.take i) (bs.take i) ++ [2 * N[i] + bs[i]] := by
  rw [plc, plc, List.take_succ_eq_append_getElem h1, List.take_succ_eq_append_getElem h2, List.zipWith_append (by simp; omega)]
  rfl
theorem setL_fill {n : Nat} {N bs : List Nat} (hN : N.Nodup) (hl : bs.length = N.length) (hb : ∀ b ∈ bs, b ≤ 1) {i : Nat} (hi : i < N.length) (hn : N[i] < n) :
    (setL n (plc (N.take i) (bs.take i))).set N[i] ((bs[i]'(by omega) : Nat) : Int) = setL n (plc (N.take (i + 1)) (bs.take (i + 1))) := by
  have hi2 : i < bs.length := by omega
  have hb1 := hb _ (List.getElem_mem hi2)
  have hno : ∀ p, p / 2 = N[i] → p ∉ plc (N.take i) (bs.take i) := by
    intro p hp hm
    obtain ⟨j, hj, hj2, rfl⟩ := Sat.plc_mem.1 hm
    have hj3 : j < i := by simp at hj; omega
    have hbj := hb _ (List.getElem_mem (show j < bs.length by omega))
    have e : N[j] = N[i] := by simp only [List.getElem_take] at hp; omega
    have := (List.getElem_inj hN).1 e
    omega
  rw [plc_take_succ hi hi2, ← Sat.setL_add (p := 2 * N[i] + bs[i]) (by omega) (hno _ (by omega)) (hno _ (by rw [Sat.mate_div]; omega)), show (2 * N[i] + bs[i]) / 2 = N[i] by omega, show (2 * N[i] + bs[i]) % 2 = bs[i] by omega]
theorem bitsL_len (k b : Nat) : (bitsL k b).length = k := by simp [bitsL]
theorem bitsL_le (k b : Nat) : ∀ c ∈ bitsL k b, c ≤ 1 := fun c hc => by
  obtain ⟨i, _, rfl⟩ := List.mem_map.1 hc
  show _ % 2 ≤ 1
  omega
theorem bitsL_get (k b : Nat) {i : Nat} (hi : i < k) : (bitsL k b)[i]'(by rw [bitsL_len]; exact hi) = b / 2 ^ (k - 1 - i) % 2 := by simp [bitsL]
/-- the right settings of names, in order: as settings -/
def settL (n : Nat) (mn : List (Nat × Nat)) (cn N : List Nat) : List (List Int) := ((sidesL N.length).filter fun bs => rightP mn cn (plc N bs)).map fun bs => setL n (plc N bs)
/-- the first k of all, those that are right -/
def outF (n : Nat) (mn : List (Nat × Nat)) (cn N : List Nat) (k : Nat) : List (List Int) := (((List.range k).map (bitsL N.length)).filter fun bs => rightP mn cn (plc N bs)).map fun bs => setL n (plc N bs)
theorem outF_all (n : Nat) (mn : List (Nat × Nat)) (cn N : List Nat) : outF n mn cn N (2 ^ N.length) = settL n mn cn N := by rw [outF, Sat.bits_sides, settL]
theorem outF_succ (n : Nat) (mn : List (Nat × Nat)) (cn N : List Nat) (k : Nat) : outF n mn cn N (k + 1) = outF n mn cn N k ++ if rightP mn cn (plc N (bitsL N.length k)) = true then [setL n (plc N (bitsL N.length k))] else [] := by
  rw [outF, List.range_succ, List.map_append, List.filter_append, List.map_append, ← outF]
  congr 1
  rw [List.map_cons, List.map_nil]
  cases h : rightP mn cn (plc N (bitsL N.length k))
  · rw [List.filter_cons_of_neg (by simpa using h)]; rfl
  · rw [List.filter_cons_of_pos (by simpa using h)]; rfl
theorem outF_len (n : Nat) (mn : List (Nat × Nat)) (cn N : List Nat) (k : Nat) : (outF n mn cn N k).length ≤ k := by
  rw [outF, List.length_map]
  refine Nat.le_trans (List.length_filter_le _ _) ?_
  simp
end Go.Proofs.Ytdhdpbnlhnodjaa

/-  The definitions' Steps, Named, CheckSetting. -/
namespace Go.Proofs.Ytdhdpbnlhnodjaa
open Go.RowKit

theorem hasB_nat (cn : List Nat) (p : Nat) : hasB (cn.map fun (c : Nat) => (c : Int)) p = cn.contains p := by
  rw [hasB, List.any_map, Bool.eq_iff_iff, List.any_eq_true, List.contains_iff_mem]
  constructor
  · rintro ⟨x, hx, h⟩
    have h2 : ((x : Int) == (p : Int)) = true := h
    have h3 : (x : Int) = (p : Int) := by simpa using h2
    have : x = p := by omega
    exact this ▸ hx
  · exact fun h => ⟨p, h, by simp⟩
set_option maxRecDepth 100000 in
set_option maxHeartbeats 2000000 in
theorem Steps_calls (n : Nat) (mv cv : Value) (mn : List (Nat × Nat)) (cn : List Nat) (hne : ∀ m ∈ mn, m.1 / 2 ≠ m.2 / 2) (p q : Nat) (hp : p < 20) (hq : q < 20) (W : World) (hs : Sht W mv cv (mn.map prI) (cn.map fun (c : Nat) => (c : Int))) :
    Calls Try.prog 69 #[.agg #[.int .i64 n, mv, cv], .int .i64 (p : Int), .int .i64 (q : Int)] W (Gives (.bool (Sat.lead (Sat.layS mn cn hne) p q)) W) := by
  obtain ⟨ms, hms⟩ : ∃ ms, mn.map prI = ms := ⟨_, rfl⟩
  obtain ⟨cs, hcs⟩ : ∃ cs, (cn.map fun (c : Nat) => (c : Int)) = cs := ⟨_, rfl⟩
  rw [hms, hcs] at hs
  have HMS := Lib.hid hms
  have HCS := Lib.hid hcs
  clear hms hcs
  obtain ⟨am, lm, cm, rfl⟩ : ∃ a n c, mv = .slice a n c := by obtain ⟨a, c, e⟩ := hs.m.form; exact ⟨a, _, c, e⟩
  obtain ⟨ac, lc, cc, rfl⟩ : ∃ a n c, cv = .slice a n c := by obtain ⟨a, c, e⟩ := hs.c.form; exact ⟨a, _, c, e⟩
  have HLM := Lib.hid (show lm = ms.length by obtain ⟨a, c, e⟩ := hs.m.form; cases e; rfl)
  have HLC := Lib.hid (show lc = cs.length by obtain ⟨a, c, e⟩ := hs.c.form; cases e; rfl)
  have hv := Lib.hid (show Sat.lead (Sat.layS mn cn hne) p q = (((q : Int) == (Sat.mate p : Nat) && hasB cs p) || Sat.meetP mn p (Sat.mate q)) by
    show (Sat.meetP mn p (Sat.mate q) || (q == Sat.mate p && cn.contains p)) = _
    rw [← HCS.out, hasB_nat, nat_beq, Bool.or_comm])
  have hmq : Sat.mate q < 21 := by rw [Sat.mate]; split <;> omega
  go_enter Try.func69, Try.ntmps69
  go_wp2_with fail
  obtain ⟨B, hB⟩ : ∃ B, B = W.heap.size := ⟨_, rfl⟩
  obtain ⟨z, hz⟩ : ∃ z : Later W, z.w = W.alloc (.cells #[.int .i64 n, .slice am lm cm, .slice ac lc cc] 25) := ⟨Later.new _ _, rfl⟩
  have c0 : z.w.cell? ⟨B, 0, none⟩ = some (.int .i64 n) := by rw [hz, hB]; simp [go_sem]
  have c1 : z.w.cell? ⟨B, 1, none⟩ = some (.slice am lm cm) := by rw [hz, hB]; simp [go_sem]
  have c2 : z.w.cell? ⟨B, 2, none⟩ = some (.slice ac lc cc) := by rw [hz, hB]; simp [go_sem]
  have hBz : B < z.w.heap.size := by rw [hz, hB]; simp [go_sem]
  rw [← hz, ← hB]
  replace hs := hs.later z
  
  clear hz hB
  refine (refMate_calls p (by omega) _).mono ?_
  rintro e w' ⟨rfl, rfl⟩
  have HQ := Lib.hid (fun W => refMate_calls q (by omega) W)
  have HME := Lib.hid (fun (V : World) (hV : Sht V (.slice am lm cm) (.slice ac lc cc) ms cs) => Meet_calls n _ _ mn cs p (Sat.mate q) V (by rw [HMS.out]; exact hV))
  cases hb1 : ((q : Int) == (Sat.mate p : Nat))
  · go_wp2
    refine region_later_lit (by kernel_rfl) (by kernel_rfl) ?_
    repeat (first | go_big_quiet_step (first
         | (go_at_call 46; (with_reducible exact Later.quiet_same _ (HQ.out _)))
         | (go_at_call 86; (with_reducible exact Later.quiet _ (HME.out _ (hs.later _))))))
    refine wpQuiet_nil ?_
    intro y
    go_wp2
    go_ret
    exact ⟨ret_bool (by rw [hv.out, hb1]; rfl), z.step y, rfl⟩
  · go_wp2_with fail
    refine (Has_calls _ cs p _ hs.c).mono ?_
    rintro e w' ⟨rfl, rfl⟩
    cases hb2 : hasB cs p
    · go_wp2
      refine region_later_lit (by kernel_rfl) (by kernel_rfl) ?_
      repeat (first | go_big_quiet_step (first
           | (go_at_call 46; (with_reducible exact Later.quiet_same _ (HQ.out _)))
           | (go_at_call 86; (with_reducible exact Later.quiet _ (HME.out _ (hs.later _))))))
      refine wpQuiet_nil ?_
      intro y
      go_wp2
      go_ret
      exact ⟨ret_bool (by rw [hv.out, hb1, hb2]; rfl), z.step y, rfl⟩
    · go_wp2
      go_ret
      exact ⟨ret_bool (by rw [hv.out, hb1, hb2]; rfl), z, rfl⟩

theorem namesF_drop (n lo : Int) (xs : List Int) (k : Nat) (hk : k < xs.length) : namesF n lo (xs.drop k) = (decide (lo ≤ nth xs k) && decide (nth xs k < n) && namesF n (nth xs k + 1) (xs.drop (k + 1))) := by
  rw [List.drop_eq_getElem_cons hk, namesF, nth_eq hk]
set_option maxRecDepth 100000 in
set_option maxHeartbeats 4000000 in
theorem Named_calls (n : Int) (mv cv nv : Value) (ms : List (Int × Int)) (cs xs : List Int) (W : World) (hs : Sht W mv cv ms cs) (hx : Ints W nv xs) :
    Calls Try.prog 47 #[.agg #[.int .i64 n, mv, cv], nv] W (Gives (.int .i64 (nameE n ms cs xs)) W) := by
  obtain ⟨am, lm, cm, rfl⟩ : ∃ a n c, mv = .slice a n c := by obtain ⟨a, c, e⟩ := hs.m.form; exact ⟨a, _, c, e⟩
  obtain ⟨ac, lc, cc, rfl⟩ : ∃ a n c, cv = .slice a n c := by obtain ⟨a, c, e⟩ := hs.c.form; exact ⟨a, _, c, e⟩
  have HLM := Lib.hid (show lm = ms.length by obtain ⟨a, c, e⟩ := hs.m.form; cases e; rfl)
  have HLC := Lib.hid (show lc = cs.length by obtain ⟨a, c, e⟩ := hs.c.form; cases e; rfl)
  have hxl := hx.1
  obtain ⟨ax, lx, cx, rfl⟩ : ∃ a n c, nv = .slice a n c := by obtain ⟨a, c, e⟩ := hx.form; exact ⟨a, _, c, e⟩
  have HLX := Lib.hid (show lx = xs.length by obtain ⟨a, c, e⟩ := hx.form; cases e; rfl)
  have hl2 : lx ≤ 9007199254740992 := by rw [HLX.out]; exact hxl
  by_cases hv : vsheet n ms cs = 0
  rotate_left
  · have hvb : (vsheet n ms cs != 0) = true := by simpa using hv
    have HE := Lib.hid (show nameE n ms cs xs = vsheet n ms cs by rw [nameE, if_pos hv])
    clear hv
    go_enter Try.func47, Try.ntmps47
    go_wp2_with fail
    obtain ⟨B, hB⟩ : ∃ B, B = W.heap.size := ⟨_, rfl⟩
    obtain ⟨z, hz⟩ : ∃ z : Later W, z.w = W.alloc (.cells #[.int .i64 n, .slice am lm cm, .slice ac lc cc] 25) := ⟨Later.new _ _, rfl⟩
    have c0 : z.w.cell? ⟨B, 0, none⟩ = some (.int .i64 n) := by rw [hz, hB]; simp [go_sem]
    have c1 : z.w.cell? ⟨B, 1, none⟩ = some (.slice am lm cm) := by rw [hz, hB]; simp [go_sem]
    have c2 : z.w.cell? ⟨B, 2, none⟩ = some (.slice ac lc cc) := by rw [hz, hB]; simp [go_sem]
    have hBz : B < z.w.heap.size := by rw [hz, hB]; simp [go_sem]
    rw [← hz, ← hB]
    replace hs := hs.later z
    replace hx := hx.later z
    clear hz hB
    refine (refCheckSheet_calls n _ _ ms cs _ hs).mono ?_
    rintro e w' ⟨rfl, x, rfl⟩
    have g0 : x.w.cell? ⟨B, 0, none⟩ = some (.int .i64 n) := ((x).cell hBz).trans c0
    have g1 : x.w.cell? ⟨B, 1, none⟩ = some (.slice am lm cm) := ((x).cell hBz).trans c1
    have g2 : x.w.cell? ⟨B, 2, none⟩ = some (.slice ac lc cc) := ((x).cell hBz).trans c2
    have gB : B < x.w.heap.size := Nat.lt_of_lt_of_le hBz (x).size
    go_wp2_with fail
    refine (refCheckSheet_calls n _ _ ms cs _ (hs.later x)).mono ?_
    rintro e w' ⟨rfl, y, rfl⟩
    go_wp2
    go_ret
    exact ⟨ret_int HE.out.symm, (z.step x).step y, rfl⟩
  · have hvb : (vsheet n ms cs != 0) = false := by rw [hv]; rfl
    have HV := Lib.hid hv
    have HE := Lib.hid (show nameE n ms cs xs = if namesB n xs = true then 0 else 2 by rw [nameE, if_neg (by rw [hv]; simp)])
    clear hv
    go_enter Try.func47, Try.ntmps47
    go_wp2_with fail
    obtain ⟨B, hB⟩ : ∃ B, B = W.heap.size := ⟨_, rfl⟩
    obtain ⟨z, hz⟩ : ∃ z : Later W, z.w = W.alloc (.cells #[.int .i64 n, .slice am lm cm, .slice ac lc cc] 25) := ⟨Later.new _ _, rfl⟩
    have c0 : z.w.cell? ⟨B, 0, none⟩ = some (.int .i64 n) := by rw [hz, hB]; simp [go_sem]
    have c1 : z.w.cell? ⟨B, 1, none⟩ = some (.slice am lm cm) := by rw [hz, hB]; simp [go_sem]
    have c2 : z.w.cell? ⟨B, 2, none⟩ = some (.slice ac lc cc) := by rw [hz, hB]; simp [go_sem]
    have hBz : B < z.w.heap.size := by rw [hz, hB]; simp [go_sem]
    rw [← hz, ← hB]
    replace hs := hs.later z
    replace hx := hx.later z
    clear hz hB
    refine (refCheckSheet_calls n _ _ ms cs _ hs).mono ?_
    rintro e w' ⟨rfl, x, rfl⟩
    rw [HV.out]
    go_wp2
    go_loopw [5] (fun i wr => ∃ (k : Nat) (u : Later z.w) (lo : Int), wr = u.w ∧ k ≤ lx ∧ i = .int .i64 k ∧ Hid (namesB n xs = namesF n lo (xs.drop k)) ∧ Hid (k = 0 → lo = 0) ∧ Hid (0 < k → lo = nth xs (k - 1) + 1 ∧ 0 ≤ nth xs (k - 1))) (fun i _ => lx - (intOf i).toNat)
    case atStart => exact ⟨0, x, 0, rfl, Nat.zero_le _, rfl, rfl, fun _ => rfl, fun h => absurd h (Nat.lt_irrefl _)⟩
    case round =>
      obtain ⟨k, u, lo, rfl, hk, rfl, hP, h0, hK⟩ := hrel
      have g0 : u.w.cell? ⟨B, 0, none⟩ = some (.int .i64 n) := ((u).cell hBz).trans c0
      have g1 : u.w.cell? ⟨B, 1, none⟩ = some (.slice am lm cm) := ((u).cell hBz).trans c1
      have g2 : u.w.cell? ⟨B, 2, none⟩ = some (.slice ac lc cc) := ((u).cell hBz).trans c2
      have gB : B < u.w.heap.size := Nat.lt_of_lt_of_le hBz (u).size
      by_cases hlt : k < lx
      · obtain ⟨bm, om, km, e, hkm, hbm, hgm⟩ := hx.at (k := k) (by rw [← HLX.out]; exact hlt)
        injection e with e1 e2 e3
        subst e1
        have m1 := (u.cell hbm).trans (hgm k (by rw [← HLX.out]; exact hlt))
        have M0 := Lib.hid (fun (_ : 0 < k) => (u.cell hbm).trans (hgm (k - 1) (by rw [← HLX.out]; omega)))
        have ml := Nat.lt_of_lt_of_le hbm u.size
        have HD := Lib.hid (namesF_drop n lo xs k (by rw [← HLX.out]; exact hlt))
        obtain ⟨p, hp⟩ : ∃ p, nth xs k = p := ⟨_, rfl⟩
        rw [hp] at m1 HD
        have HP := Lib.hid hp
        clear e2 e3 hgm hkm hp
        have hbad : ¬ (lo ≤ p ∧ p < n) → namesB n xs = false := fun h => by
          rw [hP.out, HD.out]
          by_cases h1 : lo ≤ p
          · rw [decide_eq_false (fun h2 => h ⟨h1, h2⟩)]; simp
          · rw [decide_eq_false h1]; simp
        have hgood : lo ≤ p → p < n → namesB n xs = namesF n (p + 1) (xs.drop (k + 1)) := fun h1 h2 => by rw [hP.out, HD.out, decide_eq_true h1, decide_eq_true h2]; rfl
        have HB := Lib.hid hbad
        have HG := Lib.hid hgood
        clear hbad hgood
        by_cases c1 : p < 0
        · go_wp2
          refine region_later_lit (by kernel_rfl) (by kernel_rfl) ?_
          repeat (first | go_big_quiet_step (first
               | (fail)))
          refine wpQuiet_nil ?_
          intro y
          go_wp2
          go_ret
          exact ⟨ret_int (by rw [HE.out, HB.out (fun h => by rcases Nat.eq_zero_or_pos k with e | e; (have := h0.out e; omega); (have := hK.out e; omega))]; rfl), (z.step u).step y, rfl⟩
        · have d1 := decide_eq_false c1
          by_cases c2 : n ≤ p
          · have d2 := decide_eq_true c2
            go_wp2
            refine region_later_lit (by kernel_rfl) (by kernel_rfl) ?_
            repeat (first | go_big_quiet_step (first
                 | (fail)))
            refine wpQuiet_nil ?_
            intro y
            go_wp2
            go_ret
            exact ⟨ret_int (by rw [HE.out, HB.out (fun h => by omega)]; rfl), (z.step u).step y, rfl⟩
          · have d2 := decide_eq_false c2
            by_cases c3 : 0 < k
            · have d3 : decide ((k : Int) > 0) = true := decide_eq_true (by omega)
              have d3' : decide ((0 : Int) < k) = true := decide_eq_true (by omega)
              have m0 := M0.out c3
              obtain ⟨j, hj⟩ : ∃ j, k - 1 = j := ⟨_, rfl⟩
              obtain ⟨p0, hp0⟩ : ∃ p, nth xs (k - 1) = p := ⟨_, rfl⟩
              have hlo : lo = p0 + 1 ∧ 0 ≤ p0 := by rw [← hp0]; exact hK.out c3
              rw [hp0, hj] at m0
              have ej : (k : Int) - 1 = (j : Int) := by omega
              have hjl : j < lx := by omega
              clear hp0 hj
              by_cases c4 : p ≤ p0
              · have d4 := decide_eq_true c4
                go_wp2
                refine region_later_lit (by kernel_rfl) (by kernel_rfl) ?_
                repeat (first | go_big_quiet_step (first
                     | (fail)))
                refine wpQuiet_nil ?_
                intro y
                go_wp2
                go_ret
                exact ⟨ret_int (by rw [HE.out, HB.out (fun h => by omega)]; rfl), (z.step u).step y, rfl⟩
              · have d4 := decide_eq_false c4
                go_wp2
                refine region_later_lit (by kernel_rfl) (by kernel_rfl) ?_
                repeat (first | go_big_quiet_step (first
                     | (fail)))
                refine wpQuiet_nil ?_
                intro y
                go_wp2
                go_roundw
                case rel => exact ⟨k + 1, u.step y, p + 1, rfl, by omega, by go_num, HG.out (by omega) (by omega), fun h => by omega, fun _ => ⟨by rw [Nat.add_sub_cancel, HP.out], by rw [Nat.add_sub_cancel, HP.out]; omega⟩⟩
                case measure => simp [intOf]; omega
            · have hk0 : k = 0 := by omega
              have d3 : decide ((k : Int) > 0) = false := decide_eq_false (by omega)
              have d3' : decide ((0 : Int) < k) = false := decide_eq_false (by omega)
              have hlo := h0.out hk0
              clear hk0
              go_wp2
              refine region_later_lit (by kernel_rfl) (by kernel_rfl) ?_
              repeat (first | go_big_quiet_step (first
                   | (fail)))
              refine wpQuiet_nil ?_
              intro y
              go_wp2
              go_roundw
              case rel => exact ⟨k + 1, u.step y, p + 1, rfl, by omega, by go_num, HG.out (by omega) (by omega), fun h => by omega, fun _ => ⟨by rw [Nat.add_sub_cancel, HP.out], by rw [Nat.add_sub_cancel, HP.out]; omega⟩⟩
              case measure => simp [intOf]; omega
      · obtain rfl : lx = k := by omega
        have HT := Lib.hid (show namesB n xs = true by rw [hP.out, List.drop_eq_nil_of_le (by rw [HLX.out]; exact Nat.le_refl _)]; rfl)
        go_wp2
        go_ret
        exact ⟨ret_int (by rw [HE.out, HT.out]; rfl), z.step u, rfl⟩

end Go.Proofs.Ytdhdpbnlhnodjaa

/-  The definitions' CheckSetting. -/
namespace Go.Proofs.Ytdhdpbnlhnodjaa
open Go.RowKit

theorem ret_ints {k l : IntKind} {a b c d : Int} (h1 : a = b) (h2 : c = d) : Ending.returned (.tuple #[.int k a, .int l c]) = .returned (.tuple #[.int k b, .int l d]) := by rw [h1, h2]
theorem ret_err {l : IntKind} {v : Value} {c d : Int} (h2 : c = d) : Ending.returned (.tuple #[v, .int l c]) = .returned (.tuple #[v, .int l d]) := by rw [h2]
/-- CheckSetting: its error, and how many names are set -/
def settE (n : Int) (ms : List (Int × Int)) (cs st : List Int) : Int :=
  if vsheet n ms cs ≠ 0 then vsheet n ms cs else if (st.length : Int) ≠ n then 15 else if st.any (outB (-1) 1) = true then 3 else if rightI ms cs st = true then 0 else 18
def cntS (st : List Int) : Nat := (st.filter fun x => decide (0 ≤ x)).length
def settN (n : Int) (ms : List (Int × Int)) (cs st : List Int) : Int := if settE n ms cs st = 0 then cntS st else 0
theorem cntS_snoc (st : List Int) (k : Nat) (hk : k < st.length) : cntS (st.take (k + 1)) = cntS (st.take k) + if 0 ≤ nth st k then 1 else 0 := by
  rw [cntS, List.take_succ_eq_append_getElem hk, List.filter_append, List.length_append, ← cntS, nth_eq hk]
  congr 1
  by_cases h : 0 ≤ st[k]
  · rw [if_pos h, List.filter_cons_of_pos (by simpa using h)]; rfl
  · rw [if_neg h, List.filter_cons_of_neg (by simpa using h)]; rfl
theorem cntS_le (st : List Int) : cntS st ≤ st.length := List.length_filter_le _ _
set_option maxRecDepth 100000 in
set_option maxHeartbeats 4000000 in
theorem refCheckSetting_calls (n : Int) (mv cv sv : Value) (ms : List (Int × Int)) (cs st : List Int) (W : World) (hs : Sht W mv cv ms cs) (hx : Ints W sv st) :
    Calls Try.prog 19 #[.agg #[.int .i64 n, mv, cv], sv] W (Gives (.tuple #[.int .i64 (settN n ms cs st), .int .i64 (settE n ms cs st)]) W) := by
  obtain ⟨am, lm, cm, rfl⟩ : ∃ a n c, mv = .slice a n c := by obtain ⟨a, c, e⟩ := hs.m.form; exact ⟨a, _, c, e⟩
  obtain ⟨ac, lc, cc, rfl⟩ : ∃ a n c, cv = .slice a n c := by obtain ⟨a, c, e⟩ := hs.c.form; exact ⟨a, _, c, e⟩
  have HLM := Lib.hid (show lm = ms.length by obtain ⟨a, c, e⟩ := hs.m.form; cases e; rfl)
  have HLC := Lib.hid (show lc = cs.length by obtain ⟨a, c, e⟩ := hs.c.form; cases e; rfl)
  have hxl := hx.1
  obtain ⟨ax, lx, cx, rfl⟩ : ∃ a n c, sv = .slice a n c := by obtain ⟨a, c, e⟩ := hx.form; exact ⟨a, _, c, e⟩
  have HLX := Lib.hid (show lx = st.length by obtain ⟨a, c, e⟩ := hx.form; cases e; rfl)
  have hl2 : lx ≤ 9007199254740992 := by rw [HLX.out]; exact hxl
  by_cases hv : vsheet n ms cs = 0
  rotate_left
  · have hvb : (vsheet n ms cs != 0) = true := by simpa using hv
    have HE := Lib.hid (show settE n ms cs st = vsheet n ms cs by rw [settE, if_pos hv])
    have HN := Lib.hid (show settN n ms cs st = 0 by rw [settN, HE.out, if_neg hv])
    clear hv
    go_enter Try.func19, Try.ntmps19
    go_wp2_with fail
    obtain ⟨B, hB⟩ : ∃ B, B = W.heap.size := ⟨_, rfl⟩
    obtain ⟨z, hz⟩ : ∃ z : Later W, z.w = W.alloc (.cells #[.int .i64 n, .slice am lm cm, .slice ac lc cc] 25) := ⟨Later.new _ _, rfl⟩
    have c0 : z.w.cell? ⟨B, 0, none⟩ = some (.int .i64 n) := by rw [hz, hB]; simp [go_sem]
    have c1 : z.w.cell? ⟨B, 1, none⟩ = some (.slice am lm cm) := by rw [hz, hB]; simp [go_sem]
    have c2 : z.w.cell? ⟨B, 2, none⟩ = some (.slice ac lc cc) := by rw [hz, hB]; simp [go_sem]
    have hBz : B < z.w.heap.size := by rw [hz, hB]; simp [go_sem]
    rw [← hz, ← hB]
    replace hs := hs.later z
    replace hx := hx.later z
    clear hz hB
    refine (refCheckSheet_calls n _ _ ms cs _ hs).mono ?_
    rintro e w' ⟨rfl, x, rfl⟩
    have g0 : x.w.cell? ⟨B, 0, none⟩ = some (.int .i64 n) := ((x).cell hBz).trans c0
    have g1 : x.w.cell? ⟨B, 1, none⟩ = some (.slice am lm cm) := ((x).cell hBz).trans c1
    have g2 : x.w.cell? ⟨B, 2, none⟩ = some (.slice ac lc cc) := ((x).cell hBz).trans c2
    have gB : B < x.w.heap.size := Nat.lt_of_lt_of_le hBz (x).size
    go_wp2_with fail
    refine (refCheckSheet_calls n _ _ ms cs _ (hs.later x)).mono ?_
    rintro e w' ⟨rfl, y, rfl⟩
    go_wp2
    go_ret2
    exact ⟨ret_ints HN.out.symm HE.out.symm, (z.step x).step y, rfl⟩
  have hvb : (vsheet n ms cs != 0) = false := by rw [hv]; rfl
  have HV := Lib.hid hv
  have HS0 := Lib.hid (show settE n ms cs st = if (st.length : Int) ≠ n then 15 else if st.any (outB (-1) 1) = true then 3 else if rightI ms cs st = true then 0 else 18 by rw [settE, if_neg (by rw [hv]; simp)])
  clear hv
  by_cases hln : (lx : Int) = n
  rotate_left
  · have HE := Lib.hid (show settE n ms cs st = 15 by rw [HS0.out, if_pos (by rw [← HLX.out]; exact hln)])
    have HN := Lib.hid (show settN n ms cs st = 0 by rw [settN, HE.out, if_neg (by decide)])
    go_enter Try.func19, Try.ntmps19
    go_wp2_with fail
    obtain ⟨B, hB⟩ : ∃ B, B = W.heap.size := ⟨_, rfl⟩
    obtain ⟨z, hz⟩ : ∃ z : Later W, z.w = W.alloc (.cells #[.int .i64 n, .slice am lm cm, .slice ac lc cc] 25) := ⟨Later.new _ _, rfl⟩
    have c0 : z.w.cell? ⟨B, 0, none⟩ = some (.int .i64 n) := by rw [hz, hB]; simp [go_sem]
    have c1 : z.w.cell? ⟨B, 1, none⟩ = some (.slice am lm cm) := by rw [hz, hB]; simp [go_sem]
    have c2 : z.w.cell? ⟨B, 2, none⟩ = some (.slice ac lc cc) := by rw [hz, hB]; simp [go_sem]
    have hBz : B < z.w.heap.size := by rw [hz, hB]; simp [go_sem]
    rw [← hz, ← hB]
    replace hs := hs.later z
    replace hx := hx.later z
    clear hz hB
    refine (refCheckSheet_calls n _ _ ms cs _ hs).mono ?_
    rintro e w' ⟨rfl, x, rfl⟩
    rw [HV.out]
    have g0 : x.w.cell? ⟨B, 0, none⟩ = some (.int .i64 n) := ((x).cell hBz).trans c0
    have g1 : x.w.cell? ⟨B, 1, none⟩ = some (.slice am lm cm) := ((x).cell hBz).trans c1
    have g2 : x.w.cell? ⟨B, 2, none⟩ = some (.slice ac lc cc) := ((x).cell hBz).trans c2
    have gB : B < x.w.heap.size := Nat.lt_of_lt_of_le hBz (x).size
    go_wp2
    go_ret2
    exact ⟨ret_ints HN.out.symm HE.out.symm, z.step x, rfl⟩
  have HS1 := Lib.hid (show settE n ms cs st = if st.any (outB (-1) 1) = true then 3 else if rightI ms cs st = true then 0 else 18 by rw [HS0.out, if_neg (by rw [← HLX.out]; simpa using hln)])
  have HLN := Lib.hid hln
  clear HS0
  go_enter Try.func19, Try.ntmps19
  go_wp2_with fail
  obtain ⟨B, hB⟩ : ∃ B, B = W.heap.size := ⟨_, rfl⟩
  obtain ⟨z, hz⟩ : ∃ z : Later W, z.w = W.alloc (.cells #[.int .i64 n, .slice am lm cm, .slice ac lc cc] 25) := ⟨Later.new _ _, rfl⟩
  have c0 : z.w.cell? ⟨B, 0, none⟩ = some (.int .i64 n) := by rw [hz, hB]; simp [go_sem]
  have c1 : z.w.cell? ⟨B, 1, none⟩ = some (.slice am lm cm) := by rw [hz, hB]; simp [go_sem]
  have c2 : z.w.cell? ⟨B, 2, none⟩ = some (.slice ac lc cc) := by rw [hz, hB]; simp [go_sem]
  have hBz : B < z.w.heap.size := by rw [hz, hB]; simp [go_sem]
  rw [← hz, ← hB]
  replace hs := hs.later z
  replace hx := hx.later z
  clear hz hB
  refine (refCheckSheet_calls n _ _ ms cs _ hs).mono ?_
  rintro e w' ⟨rfl, x, rfl⟩
  rw [HV.out]
  have g0 : x.w.cell? ⟨B, 0, none⟩ = some (.int .i64 n) := ((x).cell hBz).trans c0
  have g1 : x.w.cell? ⟨B, 1, none⟩ = some (.slice am lm cm) := ((x).cell hBz).trans c1
  have g2 : x.w.cell? ⟨B, 2, none⟩ = some (.slice ac lc cc) := ((x).cell hBz).trans c2
  have gB : B < x.w.heap.size := Nat.lt_of_lt_of_le hBz (x).size
  go_wp2
  clear g0 g1 g2 gB
  go_loopw [6, 7] (fun c i wr => ∃ (k : Nat) (u : Later z.w) (m : Nat), wr = u.w ∧ k ≤ lx ∧ m ≤ k ∧ i = .int .i64 k ∧ c = .int .i64 m ∧ Hid (m = cntS (st.take k)) ∧ Hid (∀ j, j < k → outB (-1) 1 (nth st j) = false)) (fun c i _ => lx - (intOf i).toNat)
  case atStart => exact ⟨0, x, 0, rfl, Nat.zero_le _, Nat.le_refl _, rfl, rfl, rfl, fun j hj => absurd hj (Nat.not_lt_zero _)⟩
  case round =>
    obtain ⟨k, u, m, rfl, hk, hmk, rfl, rfl, HM, hP⟩ := hrel
    by_cases hlt : k < lx
    · obtain ⟨bm, om, km, e, hkm, hbm, hgm⟩ := hx.at (k := k) (by rw [← HLX.out]; exact hlt)
      injection e with e1 e2 e3
      subst e1
      have m1 := (u.cell hbm).trans (hgm k (by rw [← HLX.out]; exact hlt))
      have ml := Nat.lt_of_lt_of_le hbm u.size
      have HC := Lib.hid (cntS_snoc st k (by rw [← HLX.out]; exact hlt))
      have hkl := Lib.hid (show k < st.length by rw [← HLX.out]; exact hlt)
      obtain ⟨p, hp⟩ : ∃ p, nth st k = p := ⟨_, rfl⟩
      have hpo : outB (-1) 1 (nth st k) = (decide (p < -1) || decide (1 < p)) := by rw [hp]; rfl
      rw [hp] at m1 HC
      have HPO := Lib.hid hpo
      clear e2 e3 hgm hkm hp hpo
      by_cases c1 : p < -1
      · have HA := Lib.hid (show st.any (outB (-1) 1) = true from any_at (l := st) (d := 0) (k := k) hkl.out (show outB (-1) 1 (nth st k) = true by rw [HPO.out, decide_eq_true c1]; rfl))
        have HE := Lib.hid (show settE n ms cs st = 3 by rw [HS1.out, if_pos HA.out])
        have HN := Lib.hid (show settN n ms cs st = 0 by rw [settN, HE.out, if_neg (by decide)])
        go_wp2
        go_ret2
        exact ⟨ret_ints HN.out.symm HE.out.symm, z.step u, rfl⟩
      · have d1 := decide_eq_false c1
        by_cases c2 : 1 < p
        · have d2 := decide_eq_true c2
          have HA := Lib.hid (show st.any (outB (-1) 1) = true from any_at (l := st) (d := 0) (k := k) hkl.out (show outB (-1) 1 (nth st k) = true by rw [HPO.out, d1, d2]; rfl))
          have HE := Lib.hid (show settE n ms cs st = 3 by rw [HS1.out, if_pos HA.out])
          have HN := Lib.hid (show settN n ms cs st = 0 by rw [settN, HE.out, if_neg (by decide)])
          go_wp2
          go_ret2
          exact ⟨ret_ints HN.out.symm HE.out.symm, z.step u, rfl⟩
        · have d2 := decide_eq_false c2
          have HQ := Lib.hid (any_snoc (l := st) (d := 0) (f := outB (-1) 1) hP.out (show outB (-1) 1 (nth st k) = false by rw [HPO.out, d1, d2]; rfl))
          by_cases c3 : 0 ≤ p
          · go_wp2
            go_roundw
            case rel => exact ⟨k + 1, u, m + 1, rfl, by omega, by omega, by go_num, by go_num, by unfold Hid; rw [HC.out, HM.out, if_pos c3], HQ.out⟩
            case measure => simp [intOf]; omega
          · go_wp2
            go_roundw
            case rel => exact ⟨k + 1, u, m, rfl, by omega, by omega, by go_num, by go_num, by unfold Hid; rw [HC.out, HM.out, if_neg c3]; rfl, HQ.out⟩
            case measure => simp [intOf]; omega
    · obtain rfl : lx = k := by omega
      have HA := Lib.hid (any_off (l := st) (d := 0) (f := outB (-1) 1) fun j hj => hP.out j (by rw [HLX.out]; exact hj))
      have HS2 := Lib.hid (show settE n ms cs st = if rightI ms cs st = true then 0 else 18 by rw [HS1.out, if_neg (by rw [HA.out]; simp)])
      have HMM := Lib.hid (show m = cntS st by rw [HM.out, HLX.out, List.take_length])
      have g0 : u.w.cell? ⟨B, 0, none⟩ = some (.int .i64 n) := ((u).cell hBz).trans c0
      have g1 : u.w.cell? ⟨B, 1, none⟩ = some (.slice am lm cm) := ((u).cell hBz).trans c1
      have g2 : u.w.cell? ⟨B, 2, none⟩ = some (.slice ac lc cc) := ((u).cell hBz).trans c2
      have gB : B < u.w.heap.size := Nat.lt_of_lt_of_le hBz (u).size
      go_wp2_with fail
      refine (IsRight_calls n _ _ _ ms cs st _ (hs.later u) (hx.later u) HV.out (by rw [← HLX.out, HLN.out])).mono ?_
      rintro e w' ⟨rfl, y, rfl⟩
      cases hr : rightI ms cs st
      · have HE := Lib.hid (show settE n ms cs st = 18 by rw [HS2.out, hr]; rfl)
        have HN := Lib.hid (show settN n ms cs st = 0 by rw [settN, HE.out, if_neg (by decide)])
        go_wp2
        go_ret2
        exact ⟨ret_ints HN.out.symm HE.out.symm, (z.step u).step y, rfl⟩
      · have HE := Lib.hid (show settE n ms cs st = 0 by rw [HS2.out, hr]; rfl)
        have HN := Lib.hid (show settN n ms cs st = m by rw [settN, HE.out, if_pos rfl, HMM.out])
        go_wp2
        go_ret2
        exact ⟨ret_ints HN.out.symm HE.out.symm, (z.step u).step y, rfl⟩

end Go.Proofs.Ytdhdpbnlhnodjaa

/-  The definitions' Settings. -/
namespace Go.Proofs.Ytdhdpbnlhnodjaa
open Go.RowKit
open Sat (plc setL bitsL rightP)

theorem Ints.natAt {W : World} {v : Value} {N : List Nat} (_ : Ints W v (N.map fun (k : Nat) => (k : Int))) {k : Nat} (hk : k < N.length) : nth (N.map fun (k : Nat) => (k : Int)) k = (N[k] : Nat) := by
  rw [nth_eq (by simpa using hk)]; simp
theorem i64_and1 (n : Int) : bits .and .i64 n 1 = n % 2 := by
  have h1 : (BitVec.ofInt 64 1).toNat = 2 ^ 1 - 1 := by decide
  have key : (BitVec.ofInt 64 n &&& BitVec.ofInt 64 1).toNat = (n % ((2 ^ 64 : Nat) : Int)).toNat % 2 ^ 1 := by
    rw [BitVec.toNat_and, BitVec.toNat_ofInt, h1, Nat.and_two_pow_sub_one_eq_mod]
  show IntKind.i64.wrap ((BitVec.ofInt 64 n &&& BitVec.ofInt 64 1).toNat : Nat) = n % 2
  rw [key, IntKind.wrap_i64]

  omega
theorem Sat_fill {n : Nat} {N : List Nat} (hN : Nms n N) (k : Nat) {j : Nat} (hj : j < N.length) (hn : N[j] < n) :
    (setL n (plc (N.take j) ((bitsL N.length k).take j))).set N[j] ((k / 2 ^ (N.length - 1 - j) % 2 : Nat) : Int) = setL n (plc (N.take (j + 1)) ((bitsL N.length k).take (j + 1))) := by
  rw [← setL_fill hN.nodup (bitsL_len _ _) (bitsL_le _ _) hj hn, bitsL_get _ _ hj]
set_option maxRecDepth 100000 in
set_option maxHeartbeats 4000000 in
theorem Settings_calls (n : Nat) (mv cv nv : Value) (mn : List (Nat × Nat)) (cn N : List Nat) (hS : Shn n mn cn) (hN : Nms n N) (W : World) (hs : Sht W mv cv (mn.map prI) (cn.map fun (c : Nat) => (c : Int))) (hx : Ints W nv (N.map fun (k : Nat) => (k : Int))) :
    Calls Try.prog 61 #[.agg #[.int .i64 n, mv, cv], nv] W fun e w' => ∃ v, ∃ x : Later W, e = .returned v ∧ w' = x.w ∧ Rows2 x.w v (settL n mn cn N) := by
  obtain ⟨ms, hms⟩ : ∃ ms, mn.map prI = ms := ⟨_, rfl⟩
  obtain ⟨cs, hcs⟩ : ∃ cs, (cn.map fun (c : Nat) => (c : Int)) = cs := ⟨_, rfl⟩
  obtain ⟨xs, hxs⟩ : ∃ xs, (N.map fun (k : Nat) => (k : Int)) = xs := ⟨_, rfl⟩
  have HVS := Lib.hid hS.v
  rw [hms, hcs] at HVS
  rw [hms, hcs] at hs
  rw [hxs] at hx
  have HMS := Lib.hid hms
  have HCS := Lib.hid hcs
  have HXS := Lib.hid hxs
  clear hms hcs hxs
  obtain ⟨am, lm, cm, rfl⟩ : ∃ a n c, mv = .slice a n c := by obtain ⟨a, c, e⟩ := hs.m.form; exact ⟨a, _, c, e⟩
  obtain ⟨ac, lc, cc, rfl⟩ : ∃ a n c, cv = .slice a n c := by obtain ⟨a, c, e⟩ := hs.c.form; exact ⟨a, _, c, e⟩
  have HLM := Lib.hid (show lm = ms.length by obtain ⟨a, c, e⟩ := hs.m.form; cases e; rfl)
  have HLC := Lib.hid (show lc = cs.length by obtain ⟨a, c, e⟩ := hs.c.form; cases e; rfl)
  have hxl := hx.1
  obtain ⟨ax, lx, cx, rfl⟩ : ∃ a n c, nv = .slice a n c := by obtain ⟨a, c, e⟩ := hx.form; exact ⟨a, _, c, e⟩
  have HLX := Lib.hid (show lx = xs.length by obtain ⟨a, c, e⟩ := hx.form; cases e; rfl)
  have HLN := Lib.hid (show lx = N.length by rw [HLX.out, ← HXS.out, List.length_map])
  have h10 := hS.n10
  have h1 := hS.n1
  have hl10 : lx ≤ 10 := by rw [HLN.out]; exact Nat.le_trans hN.len h10
  have hmk := run_make_ints n (by omega)
  obtain ⟨M, hM⟩ : ∃ M : Nat, 2 ^ lx = M := ⟨_, rfl⟩
  have hM10 : M ≤ 1024 := by rw [← hM]; exact Nat.pow_le_pow_right (by decide) hl10
  have HM := Lib.hid hM
  have hsh : RowKit.wrap64 ((2 : Int) ^ lx) = (M : Int) := by
    rw [show (2 : Int) ^ lx = ((2 ^ lx : Nat) : Int) by push_cast; rfl, hM]
    exact IntWalk.wrap64_in _ (by omega)
  clear hM
  go_enter Try.func61, Try.ntmps61
  go_wp2_with fail
  obtain ⟨B, hB⟩ : ∃ B, B = W.heap.size := ⟨_, rfl⟩
  obtain ⟨z, hz⟩ : ∃ z : Later W, z.w = W.alloc (.cells #[.int .i64 n, .slice am lm cm, .slice ac lc cc] 25) := ⟨Later.new _ _, rfl⟩
  have c0 : z.w.cell? ⟨B, 0, none⟩ = some (.int .i64 n) := by rw [hz, hB]; simp [go_sem]
  have c1 : z.w.cell? ⟨B, 1, none⟩ = some (.slice am lm cm) := by rw [hz, hB]; simp [go_sem]
  have c2 : z.w.cell? ⟨B, 2, none⟩ = some (.slice ac lc cc) := by rw [hz, hB]; simp [go_sem]
  have hBz : B < z.w.heap.size := by rw [hz, hB]; simp [go_sem]
  rw [← hz, ← hB]
  replace hs := hs.later z
  replace hx := hx.later z
  clear hz hB
  go_loopw [5, 6] (fun ov i wr => ∃ (k : Nat) (u : Later z.w), wr = u.w ∧ k ≤ M ∧ i = .int .i64 k ∧ Rows2M z.w.heap.size u.w ov (outF n mn cn N k)) (fun ov i _ => M - (intOf i).toNat)
  case atStart => exact ⟨0, Later.self _, rfl, Nat.zero_le _, rfl, Rows2M.nil _ _⟩
  case round =>
    obtain ⟨k, u, rfl, hk, rfl, hR⟩ := hrel
    have g0 : u.w.cell? ⟨B, 0, none⟩ = some (.int .i64 n) := ((u).cell hBz).trans c0
    have g1 : u.w.cell? ⟨B, 1, none⟩ = some (.slice am lm cm) := ((u).cell hBz).trans c1
    have g2 : u.w.cell? ⟨B, 2, none⟩ = some (.slice ac lc cc) := ((u).cell hBz).trans c2
    have gB : B < u.w.heap.size := Nat.lt_of_lt_of_le hBz (u).size
    obtain ⟨ao, lo, co, rfl⟩ := hR.form'
    by_cases hlt : k < M
    · go_wp2
      clear hsh
      obtain ⟨L, hL⟩ : ∃ L, u.w.heap.size = L := ⟨_, rfl⟩
      have hI0 := IntsM.zeros u.w (lo := u.w.heap.size) (n := n) rfl (Nat.le_refl _) (by omega)
      obtain ⟨u0, hu0⟩ : ∃ q : Later u.w, u.w.alloc (.cells (madeCells #[.int .i64 0] n) 3) = q.w := ⟨Later.new _ _, rfl⟩
      rw [hu0] at hI0 ⊢
      rw [hL] at hI0 ⊢
      have HL := Lib.hid hL
      clear hu0 hL
      clear g0 g1 g2 gB
      go_loopw [8] (fun i wr => ∃ (j : Nat) (y : Later u.w), wr = y.w ∧ j ≤ n ∧ i = .int .i64 j ∧ IntsM L y.w (.slice (some ⟨L, 0, none⟩) n n) (List.replicate j (-1) ++ List.replicate (n - j) 0)) (fun i _ => n - (intOf i).toNat)
      case atStart => exact ⟨0, u0, rfl, Nat.zero_le _, rfl, by simpa using hI0⟩
      case round =>
        clear hI0
        obtain ⟨j, y, rfl, hj, rfl, hI⟩ := hrel
        have g0 : y.w.cell? ⟨B, 0, none⟩ = some (.int .i64 n) := ((u.step y).cell hBz).trans c0
        have g1 : y.w.cell? ⟨B, 1, none⟩ = some (.slice am lm cm) := ((u.step y).cell hBz).trans c1
        have g2 : y.w.cell? ⟨B, 2, none⟩ = some (.slice ac lc cc) := ((u.step y).cell hBz).trans c2
        have gB : B < y.w.heap.size := Nat.lt_of_lt_of_le hBz (u.step y).size
        by_cases hjn : j < n
        · obtain ⟨g, e1, -, -, hgl, -, hfz, hcl, hI2, hgr⟩ := hI.set (k := j) (by simp; omega) (-1)
          obtain rfl : g = L := (Addr.some_block e1).symm
          clear e1
          obtain ⟨ov, hov⟩ : ∃ v, nth (List.replicate j (-1) ++ List.replicate (n - j) 0) j = v := ⟨_, rfl⟩
          rw [hov] at hcl
          have HGR := Lib.hid hgr
          clear hov hgr
          go_wp2
          go_roundw
          case rel =>
            obtain ⟨q, hq⟩ := IntsM.stepB y HL.out hI HGR.out
            rw [rep_set _ _ hjn, hq] at hI2
            exact ⟨j + 1, q, hq, by omega, by go_num, hI2⟩
          case measure => simp [intOf]; omega
        · obtain rfl : n = j := by omega
          replace hI : IntsM L y.w (.slice (some ⟨L, 0, none⟩) n n) (setL n (plc (N.take 0) ((bitsL N.length k).take 0))) := by
            have e : (List.replicate n (-1 : Int) ++ List.replicate (n - n) 0) = setL n (plc (N.take 0) ((bitsL N.length k).take 0)) := by rw [Nat.sub_self]; simp [plc, Sat.setL_nil]
            rw [← e]; exact hI
          clear g0 g1 g2 gB hj
          go_wp2
          go_loopw [9] (fun i wr => ∃ (j : Nat) (y : Later u.w), wr = y.w ∧ j ≤ lx ∧ i = .int .i64 j ∧ IntsM L y.w (.slice (some ⟨L, 0, none⟩) n n) (setL n (plc (N.take j) ((bitsL N.length k).take j)))) (fun i _ => lx - (intOf i).toNat)
          case atStart => exact ⟨0, y, rfl, Nat.zero_le _, rfl, hI⟩
          case round =>
            clear hI y
            obtain ⟨j, y, rfl, hj, rfl, hI⟩ := hrel
            by_cases hjn : j < lx
            · obtain ⟨bm, om, km, e, hkm, hbm, hgm⟩ := hx.at (k := j) (by rw [← HLX.out]; exact hjn)
              injection e with e1 e2 e3
              subst e1
              have hjN : j < N.length := by rw [← HLN.out]; exact hjn
              have m1 := ((u.step y).cell hbm).trans (hgm j (by rw [← HLX.out]; exact hjn))
              have ml := Nat.lt_of_lt_of_le hbm (u.step y).size
              rw [Later.step_w] at m1 ml
              rw [← HXS.out, show nth (N.map fun (k : Nat) => (k : Int)) j = (N[j] : Nat) by rw [nth_eq (by simpa using hjN)]; simp] at m1
              have hnj := hN.lt _ (List.getElem_mem hjN)
              have hfl := Lib.hid (Sat_fill hN k hjN hnj)
              obtain ⟨q, hq⟩ : ∃ q, N[j] = q := ⟨_, rfl⟩
              rw [hq] at m1 hnj
              have HQ := Lib.hid hq
              clear hgm hkm e2 e3 hq
              have hbit : bits .and .i64 ((k : Int) / 2 ^ (lx - 1 - j)) 1 = (k : Int) / 2 ^ (lx - 1 - j) % 2 := i64_and1 _
              go_wp2
              refine Mix.region_mixL (Mix.kinds [] [] [14]) (by kernel_rfl) (by kernel_rfl) ?_
              repeat ((with_reducible refine Mix.atCons ?_); first | refine Mix.skipU (by rfl) rfl (by rfl) ?_ | (refine Mix.val rfl rfl (by rfl) (fun K hK => ?_); go_big_quiet_op; refine hK _ ?_; clear hK K) | (refine Mix.skip (by rfl) ?_; go_frame))
              refine Mix.last rfl (by rfl) (fun x1 K hK => ?_)
              obtain ⟨g, e1, -, -, hgl, -, hfz, hcl, hI2, hgr⟩ := (hI.later x1).set (k := q) (by rw [Sat.setL_len]; exact hnj) ((k : Int) / 2 ^ (lx - 1 - j) % 2)
              obtain rfl : g = L := (Addr.some_block e1).symm
              clear e1
              obtain ⟨ov, hov⟩ : ∃ v, nth (setL n (plc (N.take j) ((bitsL N.length k).take j))) q = v := ⟨_, rfl⟩
              rw [hov] at hcl
              have HGR := Lib.hid hgr
              clear hov hgr
              go_wp2_with fail
              refine Mix.done (fun x2 => ?_)
              go_wp2
              go_roundw
              case rel =>
                obtain ⟨q2, hq2⟩ := IntsM.stepB (y.step x1) HL.out (hI.later x1) HGR.out
                have e : (setL n (plc (N.take j) ((bitsL N.length k).take j))).set q ((k : Int) / 2 ^ (lx - 1 - j) % 2) = setL n (plc (N.take (j + 1)) ((bitsL N.length k).take (j + 1))) := by
                  rw [← HQ.out, HLN.out, ← hfl.out]; congr 1
                rw [e] at hI2
                exact ⟨j + 1, ⟨x2.w, (show Below u.w.heap.size u.w _ from hq2 ▸ q2.le).trans (x2.le.mono (show Below u.w.heap.size u.w _ from hq2 ▸ q2.le).size)⟩, rfl, by omega, by go_num, hI2.later x2⟩
              case measure => simp [intOf]; omega
            · obtain rfl : lx = j := by omega
              have hIz : IntsM L y.w (.slice (some ⟨L, 0, none⟩) n n) (setL n (plc N (bitsL N.length k))) := by
                have e : (setL n (plc (N.take lx) ((bitsL N.length k).take lx))) = setL n (plc N (bitsL N.length k)) := by rw [HLN.out, List.take_length, List.take_of_length_le (by rw [bitsL_len]; exact Nat.le_refl _)]
                rw [← e]; exact hI
              clear hI hj
              have hOne := Lib.hid (Sat.plc_one hN.nodup (bitsL_le N.length k))
              obtain ⟨st, hst⟩ : ∃ st, setL n (plc N (bitsL N.length k)) = st := ⟨_, rfl⟩
              have hstl := Lib.hid (show (st.length : Int) = n by rw [← hst, Sat.setL_len])
              have HST := Lib.hid hst
              have HR := Lib.hid (show rightI ms cs st = rightP mn cn (plc N (bitsL N.length k)) by rw [← hst, ← HMS.out, ← HCS.out]; exact rightI_nat hS hOne.out)
              rw [hst] at hIz
              clear hst
              have g0 : y.w.cell? ⟨B, 0, none⟩ = some (.int .i64 n) := ((u.step y).cell hBz).trans c0
              have g1 : y.w.cell? ⟨B, 1, none⟩ = some (.slice am lm cm) := ((u.step y).cell hBz).trans c1
              have g2 : y.w.cell? ⟨B, 2, none⟩ = some (.slice ac lc cc) := ((u.step y).cell hBz).trans c2
              have gB : B < y.w.heap.size := Nat.lt_of_lt_of_le hBz (u.step y).size
              have hrt := IsRight_calls n _ _ _ ms cs st _ (hs.later (u.step y)) (hIz.ints (by have := hstl.out; omega)) HVS.out hstl.out
              rw [Later.step_w] at hrt
              go_wp2_with fail
              refine hrt.mono ?_
              rintro e w' ⟨rfl, x1, rfl⟩
              clear hrt
              have hIz := hIz.later x1
              have hR2 := (hR.later y).later x1
              obtain ⟨v1, hv1⟩ : ∃ q : Later u.w, x1.w = q.w := ⟨y.step x1, rfl⟩
              rw [hv1] at hIz hR2 ⊢
              clear g0 g1 g2 gB hv1 x1
              have HO := Lib.hid (outF_succ n mn cn N k)
              have hbig := Nat.lt_of_le_of_lt (outF_len n mn cn N k) (show k < 1024 by omega)
              cases hr : rightI ms cs st
              · go_wp2
                go_roundw
                case rel =>
                  refine ⟨k + 1, u.step v1, rfl, by omega, by go_num, ?_⟩
                  rw [HO.out, ← HR.out, hr, if_neg (by simp), List.append_nil]
                  exact hR2
                case measure => simp [intOf]; omega
              · obtain ⟨v', q, hrun, hR3, -⟩ := app_row_step (u.step v1).le hR2 (hIz.ints (by have := hstl.out; omega)) (Sep.of_own hIz) (by omega) 52
                simp only [Later.step_w] at hrun
                have HRUN := Lib.hid hrun
                clear hrun
                go_wp2_with ((with_reducible show wpList _ _ _ (⟨some 55, _, _, _, _, _⟩ :: _) _ _); refine Lib.wpList_append_run_sl _ rfl _ _ 52 rfl _ _ rfl rfl HRUN.out ?_)
                go_roundw
                case rel =>
                  refine ⟨k + 1, q, rfl, by omega, by go_num, ?_⟩
                  rw [HO.out, ← HR.out, hr, if_pos rfl, HST.out]
                  exact hR3
                case measure => simp [intOf]; omega
    · obtain rfl : M = k := by omega
      go_wp2
      go_ret
      refine ⟨_, z.step u, rfl, rfl, ?_⟩
      rw [← outF_all, ← HLN.out, HM.out]
      exact hR.rows (by have := outF_len n mn cn N M; omega)

end Go.Proofs.Ytdhdpbnlhnodjaa
