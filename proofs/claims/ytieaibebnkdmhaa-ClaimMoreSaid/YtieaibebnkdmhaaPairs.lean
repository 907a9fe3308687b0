import Derived.RangeFuncNested
import Derived.RangeFuncBound
import Derived.RangeFuncCalls
import Derived.RangeFuncLeaves
import Derived.Shelf.Abstract
import Derived.Shelf.RegionOpen
import Derived.OwnWalkIn
import Derived.TacticsInMore
import Derived.LoopNIn
import Derived.LoopIn
import Derived.Test.YtieaibebnkdmhaaCourt3

namespace Go.Proofs.Ytieaibebnkdmhaa
open Go.RowKit Go.Shelf
attribute [local go_sem] Oper.semAt_some

def rowPs (M : PM) (n s : Nat) : List (Nat × Nat) := ((List.range s).filter (fun (t : Nat) => inM M n t)).map (fun t => (n, t))
def prsTo (M : PM) (S n : Nat) : List (Nat × Nat) := (List.range n).flatMap fun k => rowPs M k S
theorem rowPs_succ (M : PM) (n s : Nat) : rowPs M n (s + 1) = rowPs M n s ++ (if inM M n s then [(n, s)] else []) := by
  simp only [rowPs, List.range_succ, List.filter_append, List.map_append]
  by_cases h : inM M n s = true <;> simp [h]
theorem prsTo_succ (M : PM) (S n : Nat) : prsTo M S (n + 1) = prsTo M S n ++ rowPs M n S := by simp [prsTo, List.range_succ]
theorem rowPs_prefix (M : PM) (n : Nat) {s t : Nat} (h : s ≤ t) : rowPs M n s <+: rowPs M n t := by
  obtain ⟨d, rfl⟩ := Nat.le.dest h
  induction d with
  | zero => exact List.prefix_refl _
  | succ d ih => exact (ih (by omega)).trans (by rw [show s + (d + 1) = (s + d) + 1 from rfl, rowPs_succ]; exact List.prefix_append _ _)
theorem prsTo_prefix (M : PM) (S : Nat) {s t : Nat} (h : s ≤ t) : prsTo M S s <+: prsTo M S t := by
  obtain ⟨d, rfl⟩ := Nat.le.dest h
  induction d with
  | zero => exact List.prefix_refl _
  | succ d ih => exact (ih (by omega)).trans (by rw [show s + (d + 1) = (s + d) + 1 from rfl, prsTo_succ]; exact List.prefix_append _ _)

theorem rowPs_len (M : PM) (n s : Nat) : (rowPs M n s).length ≤ s := by
  unfold rowPs
  rw [List.length_map]
  exact Nat.le_trans (List.length_filter_le _ _) (by simp)
theorem prsTo_len (M : PM) (S : Nat) : ∀ n, (prsTo M S n).length ≤ n * S
  | 0 => by simp [prsTo]
  | n + 1 => by
    rw [prsTo_succ, List.length_append, Nat.add_mul, Nat.one_mul]
    exact Nat.add_le_add (prsTo_len M S n) (rowPs_len M n S)

/-- The pairs that can be handed to a loop's body. -/
abbrev Pr (N S : Nat) := { p : Nat × Nat // p.1 < N ∧ p.2 < S }
def Pr.enc {N S : Nat} (p : Pr N S) : Array Value := #[.agg #[.int .i64 p.1.1, .int .i64 p.1.2]]

set_option maxRecDepth 100000 in
set_option maxHeartbeats 2000000 in
theorem pairs1_stops (n : Nat) (n₀ Bc : Nat) (c : Value) (ns ss : List (List Int)) (M : PM) (w : World) (hn : n₀ = w.heap.size) (hB : Bc < w.heap.size) (hBc : w.cell? ⟨Bc, 0, none⟩ = some c) (hC : Court w c ns ss M) (N : Nat) (hN : ns.length * ss.length ≤ N) :
    SeqStopsK (α := Pr ns.length ss.length) Fence.wide n Try.prog 81 #[.pointer (some ⟨Bc, 0, none⟩)] Pr.enc (Below n₀)
      (fun xs => xs.map (·.1) = prsTo M ss.length ns.length) (fun pre => pre.map (·.1) <+: prsTo M ss.length ns.length) N w := by
  intro l J Jx W hW hJ hJx hY h0
  subst hn
  obtain ⟨b, m, nv, sv, rfl, hb, c0, c1, c2, hrn, hrs, hT⟩ := hC.open
  have hln := hrn.1
  have hls := hrs.1
  obtain ⟨an, cn, rfl⟩ := hrn.form
  obtain ⟨aS, cS, rfl⟩ := hrs.form
  refine callsIn_of_wp Try.func81 rfl trivial ?_ rfl
  simp only [Try.ntmps81, List.size_toArray, List.length_cons, List.length_nil, Nat.reduceAdd, Nat.reduceSub, Array.replicate_succ, Array.replicate_zero, List.push_toArray, List.append_toArray, List.nil_append, List.cons_append]
  have g0 := (hW.cell (p := ⟨Bc, 0, none⟩) hB).trans hBc
  have g1 := (hW.cell (p := ⟨b, 0, none⟩) hb).trans c0
  have hT0 := hT.later (Later.mk W hW)
  gi_wp2
  gi_loopw [13] (fun i wr => ∃ (k : Nat) (pre : List (Pr ns.length ss.length)), k ≤ ns.length ∧ i = .int .i64 k ∧ Hid (pre.map (·.1) = prsTo M ss.length k) ∧ J pre wr ∧ Below w.heap.size w wr ∧ W.heap.size ≤ wr.heap.size) (fun i _ => ns.length - (intOf i).toNat)
  case atStart => exact ⟨0, [], Nat.zero_le _, rfl, rfl, h0, hW, Nat.le_refl _⟩
  case round =>
    clear g0 g1 h0 hW hT0
    obtain ⟨k, pre, hk, rfl, hp, hJs, hW, hWs⟩ := hrel
    have g0 := (hW.cell (p := ⟨Bc, 0, none⟩) hB).trans hBc
    have g1 := (hW.cell (p := ⟨b, 1, none⟩) hb).trans c1
    by_cases hlt : k < ns.length
    · gi_wp2
      obtain ⟨wo, rfl⟩ : ∃ wo : World, wo = wr := ⟨_, rfl⟩
      clear g0 g1
      gi_loopw [22] (fun i wr' => ∃ (j : Nat) (pre' : List (Pr ns.length ss.length)), j ≤ ss.length ∧ i = .int .i64 j ∧ Hid (pre'.map (·.1) = prsTo M ss.length k ++ rowPs M k j) ∧ J pre' wr' ∧ Below w.heap.size w wr' ∧ W.heap.size ≤ wr'.heap.size) (fun i _ => ss.length - (intOf i).toNat)
      case atStart => exact ⟨0, pre, Nat.zero_le _, rfl, by unfold Hid; rw [hp.out]; simp [rowPs], hJs, hW, hWs⟩
      case round =>
        clear hJs hW hWs
        obtain ⟨j, pre', hj, rfl, hq, hJs, hW, hWs⟩ := hrel
        have g0 := (hW.cell (p := ⟨Bc, 0, none⟩) hB).trans hBc
        have g2 := (hW.cell (p := ⟨b, 2, none⟩) hb).trans c2
        by_cases hjl : j < ss.length
        · have hlk := look_court2 (hT.later (Later.mk wr hW)) k j
          have hs1 := Lib.hid (rowPs_succ M k j)
          have hJ1 : ∀ o, J pre' (wr.alloc o) := fun o => hJ _ _ _ none hJs (World.grownBy_alloc _ _ none) (fun r e => by cases e)
          cases hin : inM M k j
          · rw [hin] at hlk
            gi_wp2
            refine ⟨fun _ h => (by cases h), ?_⟩
            gi_wp2
            go_roundw
            case rel => exact ⟨j + 1, pre', by omega, by go_num, by unfold Hid; rw [hq.out, hs1.out, hin]; simp, hJ1 _, (Below.alloc hW (by have := hW.size; omega) _), by simp; omega⟩
            case measure => simp [intOf]; omega
          · rw [hin] at hlk
            have hlen : pre'.length < N := by
              have e := congrArg List.length hq.out
              rw [List.length_map, List.length_append] at e
              have l1 := prsTo_len M ss.length k
              have l2 := rowPs_len M k j
              have l3 : (k + 1) * ss.length ≤ ns.length * ss.length := Nat.mul_le_mul_right _ hlt
              rw [Nat.add_mul, Nat.one_mul] at l3
              omega
            obtain ⟨fn, tmps, assign, body, hy, hR⟩ := hY pre' (⟨(k, j), hlt, hjl⟩ : Pr ns.length ss.length) _ (hJ1 (.cells #[.int .i64 (pS M k j), .int .i64 (pN M k j)] 94)) hlen
            simp only [Pr.enc] at hy
            clear hlen hJ1
            gi_wp2
            refine ⟨fun h => (by cases h), ?_⟩
            refine hR.mono ?_
            rintro e W3 (⟨rfl, hJ3, hk3⟩ | ⟨rfl, hJx3⟩)
            · gi_wp2
              go_roundw
              case rel => exact ⟨j + 1, _, by omega, by go_num, by unfold Hid; rw [hs1.out, hin, List.map_append, hq.out]; simp, hJ3, (Below.alloc hW (by have := hW.size; omega) _).trans hk3, by have := hk3.size; simp at this; omega⟩
              case measure => simp [intOf]; omega
            · gi_wp2
              refine bodyPost_ret (results_none rfl _ _ _) rfl ?_
              refine ⟨⟨_, rfl⟩, .inr ⟨_, ?_, hJx3⟩⟩
              rw [List.map_append, hq.out]
              have e1 : rowPs M k j ++ [(k, j)] = rowPs M k (j + 1) := by rw [hs1.out, hin]; simp
              rw [List.append_assoc]
              show prsTo M ss.length k ++ (rowPs M k j ++ [(k, j)]) <+: _
              rw [e1]
              refine List.IsPrefix.trans ?_ (prsTo_prefix M ss.length (s := k + 1) (by omega))
              rw [prsTo_succ]
              exact (List.prefix_append_right_inj _).2 (rowPs_prefix M k (by omega))
        · have hs1 := Lib.hid (prsTo_succ M ss.length k)
          have hje : j = ss.length := by omega
          have hs2 := Lib.hid hje
          clear hje
          gi_wp2
          go_roundw
          case rel => exact ⟨k + 1, pre', by omega, by go_num, by unfold Hid; rw [hq.out, hs1.out, hs2.out], hJs, hW, hWs⟩
          case measure => simp [intOf]; omega
    · have hke := Lib.hid (show k = ns.length by omega)
      gi_wp2
      go_end0
      exact ⟨⟨_, rfl⟩, .inl ⟨pre, by rw [hp.out, hke.out], hJs⟩⟩
end Go.Proofs.Ytieaibebnkdmhaa
