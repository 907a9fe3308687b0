import Derived.Test.YtieaibebnkdmhaaLaw1
namespace Go.Proofs.Ytieaibebnkdmhaa
open Go.RowKit

theorem anyR_true {l : List (List Int)} {p : List Int → Bool} {k : Nat} (h : k < l.length) (hp : p (row l k) = true) : l.any p = true :=
  List.any_eq_true.2 ⟨_, List.getElem_mem h, by rw [← row_eq h]; exact hp⟩
theorem anyR_false {l : List (List Int)} {p : List Int → Bool} (h : ∀ k, k < l.length → p (row l k) = false) : l.any p = false := by
  rw [List.any_eq_false]
  intro x hx
  obtain ⟨k, hk, rfl⟩ := List.mem_iff_getElem.1 hx
  rw [← row_eq hk, h k hk]; simp
theorem anyI_true {l : List Int} {p : Int → Bool} {k : Nat} (h : k < l.length) (hp : p (nth l k) = true) : l.any p = true :=
  List.any_eq_true.2 ⟨_, List.getElem_mem h, by rw [← nth_eq h]; exact hp⟩
theorem anyI_false {l : List Int} {p : Int → Bool} (h : ∀ k, k < l.length → p (nth l k) = false) : l.any p = false := by
  rw [List.any_eq_false]
  intro x hx
  obtain ⟨k, hk, rfl⟩ := List.mem_iff_getElem.1 hx
  rw [← nth_eq hk, h k hk]; simp

/-- the error of lists of numbers below one -/
def rlis (l : List (List Int)) (below : Int) : Int := if l.any (strayB below) then 3 else 0
set_option maxHeartbeats 1000000 in
theorem reflists_calls (v : Value) (l : List (List Int)) (below : Nat) (w : World) (hx : Rows2 w v l) :
    Calls Try.prog 63 #[v, .int .i64 below] w fun e w' => e = .returned (.int .i64 (rlis l below)) ∧ w' = w := by
  have hl := hx.1
  obtain ⟨al, cl, rfl⟩ := hx.form
  go_enter Try.func63, Try.ntmps63
  go_wp2
  go_loop [5] (fun i => ∃ k : Nat, k ≤ l.length ∧ i = .int .i64 k ∧ Hid (∀ j, j < k → strayB below (row l j) = false)) (fun i => l.length - (intOf i).toNat)
  case atStart => exact ⟨0, Nat.zero_le _, rfl, fun j hj => absurd hj (Nat.not_lt_zero _)⟩
  case round =>
    obtain ⟨k, hk, rfl, hp⟩ := hrel
    by_cases hlt : k < l.length
    · obtain ⟨b, off, cap, fr, e, hcp, hb, hc⟩ := hx.at hlt
      cases e
      obtain ⟨hc1, hrow⟩ := hc k hlt
      obtain ⟨ar, cr, efr⟩ := hrow.form
      rw [efr] at hc1 hrow
      have hrl := hrow.1
      clear hc
      go_wp2
      go_loop [6] (fun i => ∃ q : Nat, q ≤ (row l k).length ∧ i = .int .i64 q ∧ Hid (∀ j, j < q → outB 0 ((below : Int) - 1) (nth (row l k) j) = false)) (fun i => (row l k).length - (intOf i).toNat)
      case atStart => exact ⟨0, Nat.zero_le _, rfl, fun j hj => absurd hj (Nat.not_lt_zero _)⟩
      case round =>
        obtain ⟨q, hq, rfl, hp2⟩ := hrel
        by_cases hlt2 : q < (row l k).length
        · obtain ⟨br, orr, cr2, e, hcr, hbr, hcc⟩ := hrow.at hlt2
          cases e
          have hc2 := hcc q hlt2
          clear hcc
          by_cases h0 : nth (row l k) q < 0
          · have hbad := Lib.hid (show l.any (strayB below) = true from anyR_true hlt (anyI_true hlt2 (by simp [outB, h0])))
            go_wp2
            go_ret
            exact ⟨ret_int (by rw [rlis, hbad.out]; rfl), rfl⟩
          · by_cases h1 : (below : Int) ≤ nth (row l k) q
            · have hbad := Lib.hid (show l.any (strayB below) = true from anyR_true hlt (anyI_true hlt2 (by simp [outB]; omega)))
              go_wp2
              go_ret
              exact ⟨ret_int (by rw [rlis, hbad.out]; rfl), rfl⟩
            · have hok := Lib.hid (show outB 0 ((below : Int) - 1) (nth (row l k) q) = false by simp [outB]; omega)
              go_wp2
              go_round
              case rel =>
                refine ⟨q + 1, by omega, by go_num, fun j hj => ?_⟩
                by_cases e : j = q
                · subst e; exact hok.out
                · exact hp2.out j (by omega)
              case measure => simp [intOf]; omega
        · have hok := Lib.hid (show strayB below (row l k) = false from anyI_false fun j hj => hp2.out j (by omega))
          go_wp2
          go_round
          case rel =>
            refine ⟨k + 1, by omega, by go_num, fun j hj => ?_⟩
            by_cases e : j = k
            · subst e; exact hok.out
            · exact hp.out j (by omega)
          case measure => simp [intOf]; omega
    · have hok := Lib.hid (show l.any (strayB below) = false from anyR_false fun j hj => hp.out j (by omega))
      go_wp2
      go_ret
      exact ⟨ret_int (by rw [rlis, hok.out]; rfl), rfl⟩

/-- a list has a number at another place than its first one -/
def twp (l : List Int) : Bool := (List.range l.length).any fun (k : Nat) => plc l (nth l k) != k
set_option maxHeartbeats 1000000 in
theorem reftwice_calls (v : Value) (l : List (List Int)) (w : World) (hx : Rows2 w v l) :
    Calls Try.prog 64 #[v] w (Gives (.bool (l.any twp)) w) := by
  have hl := hx.1
  obtain ⟨al, cl, rfl⟩ := hx.form
  go_enter Try.func64, Try.ntmps64
  go_wp2
  go_loopw [3] (fun i wr => ∃ k : Nat, ∃ x : Later w, wr = x.w ∧ k ≤ l.length ∧ i = .int .i64 k ∧ Hid (∀ j, j < k → twp (row l j) = false)) (fun i _ => l.length - (intOf i).toNat)
  case atStart => exact ⟨0, Later.self _, rfl, Nat.zero_le _, rfl, fun j hj => absurd hj (Nat.not_lt_zero _)⟩
  case round =>
    obtain ⟨k, x, rfl, hk, rfl, hp⟩ := hrel
    by_cases hlt : k < l.length
    · obtain ⟨b, off, cap, fr, e, hcp, hb, hc⟩ := hx.at hlt
      cases e
      obtain ⟨hc1, hrow⟩ := hc k hlt
      obtain ⟨ar, cr, efr⟩ := hrow.form
      rw [efr] at hc1 hrow
      have hrl := hrow.1
      have gx := (x.cell hb).trans hc1
      clear hc
      go_wp2
      go_loopw [4] (fun i wr => ∃ q : Nat, ∃ y : Later w, wr = y.w ∧ q ≤ (row l k).length ∧ i = .int .i64 q ∧ Hid (∀ j, j < q → plc (row l k) (nth (row l k) j) = j)) (fun i _ => (row l k).length - (intOf i).toNat)
      case atStart => exact ⟨0, x, rfl, Nat.zero_le _, rfl, fun j hj => absurd hj (Nat.not_lt_zero _)⟩
      case round =>
        clear gx
        obtain ⟨q, y, rfl, hq, rfl, hp2⟩ := hrel
        have gy := (y.cell hb).trans hc1
        have sb : b < y.w.heap.size := Nat.lt_of_lt_of_le hb y.size
        by_cases hlt2 : q < (row l k).length
        · obtain ⟨br, orr, cr2, e, hcr, hbr, hcc⟩ := hrow.at hlt2
          cases e
          have hc2 := (y.cell hbr).trans (hcc q hlt2)
          have sr : br < y.w.heap.size := Nat.lt_of_lt_of_le hbr y.size
          clear hcc
          cases hne : (plc (row l k) (nth (row l k) q) != q)
          · have hok := Lib.hid (show plc (row l k) (nth (row l k) q) = q by simpa using hne)
            go_wp2
            refine region_later_lit (by kernel_rfl) (by kernel_rfl) ?_
            repeat (first | simp only [hne] | go_big_quiet_step (first
              | (go_at_call 45; refine Later.quiet_same _ (Place_calls _ (row l k) _ _ ?_); exact (hrow.later y).later _)))
            refine wpQuiet_nil ?_
            intro z
            go_wp2
            go_roundw
            case rel =>
              refine ⟨q + 1, y.step z, rfl, by omega, by go_num, fun j hj => ?_⟩
              by_cases e : j = q
              · subst e; exact hok.out
              · exact hp2.out j (by omega)
            case measure => simp [intOf]; omega
          · have hbad := Lib.hid (show l.any twp = true from anyR_true hlt (by rw [twp, List.any_eq_true]; exact ⟨q, List.mem_range.2 hlt2, hne⟩))
            go_wp2
            refine region_later_lit (by kernel_rfl) (by kernel_rfl) ?_
            repeat (first | simp only [hne] | go_big_quiet_step (first
              | (go_at_call 45; refine Later.quiet_same _ (Place_calls _ (row l k) _ _ ?_); exact (hrow.later y).later _)))
            refine wpQuiet_nil ?_
            intro z
            go_wp2
            go_ret
            exact ⟨ret_bool hbad.out.symm, y.step z, rfl⟩
        · have hok := Lib.hid (show twp (row l k) = false by
            rw [twp, List.any_eq_false]; intro j hj; rw [hp2.out j (by have := List.mem_range.1 hj; omega)]; simp)
          go_wp2
          go_roundw
          case rel =>
            refine ⟨k + 1, y, rfl, by omega, by go_num, fun j hj => ?_⟩
            by_cases e : j = k
            · subst e; exact hok.out
            · exact hp.out j (by omega)
          case measure => simp [intOf]; omega
    · have hok := Lib.hid (show l.any twp = false from anyR_false fun j hj => hp.out j (by omega))
      go_wp2
      go_ret
      exact ⟨ret_bool hok.out.symm, x, rfl⟩
end Go.Proofs.Ytieaibebnkdmhaa
