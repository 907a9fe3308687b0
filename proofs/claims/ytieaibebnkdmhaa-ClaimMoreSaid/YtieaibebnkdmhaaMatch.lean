import Derived.Test.YtieaibebnkdmhaaCourt4
namespace Go.Proofs.Ytieaibebnkdmhaa
open Go.RowKit

def ruleF (M : PM) : List Int → Nat → Bool
  | [], _ => false
  | s :: l, n => (decide (0 ≤ s) && !inM M n s) || ruleF M l (n + 1)
def haveF (m : List Int) : List Int → Nat → Bool
  | [], _ => false
  | s :: l, n => (decide (0 ≤ s) && (m.take n).any (isN s)) || haveF m l (n + 1)
theorem ruleF_at (M : PM) (l : List Int) (k : Nat) (h : k < l.length) : ruleF M (l.drop k) k = ((decide (0 ≤ nth l k) && !inM M k (nth l k)) || ruleF M (l.drop (k + 1)) (k + 1)) := by
  rw [List.drop_eq_getElem_cons h, ruleF, nth_eq h]
theorem ruleF_end (M : PM) (l : List Int) (k : Nat) (h : l.length ≤ k) : ruleF M (l.drop k) k = false := by
  rw [List.drop_eq_nil_of_le h, ruleF]
theorem haveF_at (m : List Int) (l : List Int) (k : Nat) (h : k < l.length) : haveF m (l.drop k) k = ((decide (0 ≤ nth l k) && (m.take k).any (isN (nth l k))) || haveF m (l.drop (k + 1)) (k + 1)) := by
  rw [List.drop_eq_getElem_cons h, haveF, nth_eq h]
theorem haveF_end (m : List Int) (l : List Int) (k : Nat) (h : l.length ≤ k) : haveF m (l.drop k) k = false := by
  rw [List.drop_eq_nil_of_le h, haveF]

/-- which lists are matchings -/
def vmatch (ns ss : List (List Int)) (m : List Int) : Int :=
  if vbook ns ss ≠ 0 then vbook ns ss
  else if m.length ≠ ns.length then 15
  else if m.any (outB (-1) ((ss.length : Int) - 1)) then 3
  else if ruleF (tabOf ns ss) m 0 then 16
  else if haveF m m 0 then 11 else 0

def Matched (nv sv : Value) (ns ss : List (List Int)) (m : List Int) (w : World) (e : Ending) (w' : World) : Prop :=
  ∃ a : Option Addr, ∃ x : Later w, e = .returned (.tuple #[.pointer a, .int .i64 (vmatch ns ss m)]) ∧ w' = x.w ∧ (vmatch ns ss m = 0 → CourtN w.heap.size x.w (.pointer a) nv sv (tabOf ns ss))

set_option maxRecDepth 100000 in
set_option maxHeartbeats 2000000 in
theorem matched_calls (nv sv mv : Value) (ns ss : List (List Int)) (m : List Int) (w : World) (hn : Rows2 w nv ns) (hs : Rows2 w sv ss) (hm : Ints w mv m) :
    Calls Try.prog 54 #[.agg #[nv, sv], mv] w (Matched nv sv ns ss m w) := by
  obtain ⟨an, cn, rfl⟩ := hn.form
  obtain ⟨aS, cS, rfl⟩ := hs.form
  obtain ⟨am, cm, rfl⟩ := hm.form
  have hln := hn.1
  have hls := hs.1
  have hlm := hm.1
  have hn0 : Rows2 (w.alloc (.cells #[.slice an ns.length cn, .slice aS ss.length cS] 24)) _ _ := hn.later (Later.new _ _)
  have hs0 : Rows2 (w.alloc (.cells #[.slice an ns.length cn, .slice aS ss.length cS] 24)) _ _ := hs.later (Later.new _ _)
  have hm0 : Ints (w.alloc (.cells #[.slice an ns.length cn, .slice aS ss.length cS] 24)) _ _ := hm.later (Later.new _ _)
  go_enter Try.func54, Try.ntmps54
  go_wp2_with fail
  refine (open_calls _ _ ns ss _ hn0 hs0).mono ?_
  rintro e w' ⟨c, x, rfl, rfl, hC⟩
  have hm1 := hm0.later x
  by_cases h0 : vbook ns ss = 0
  rotate_left
  · have hb : (vbook ns ss == 0) = false := by simpa using h0
    have hv := Lib.hid (show vmatch ns ss m = vbook ns ss by rw [vmatch, if_pos h0])
    have h0 := Lib.hid h0
    have hb2 : (vbook ns ss != 0) = true := by simpa using h0.out
    go_wp2
    go_ret2
    exact ⟨none, (Later.new _ _).step x, ret_two hv.out.symm, rfl, fun h => absurd (hv.out.symm.trans h) h0.out⟩
  · replace hC := (hC h0).mono (lo' := w.heap.size) (by simp)
    have hnx := hn0.later x
    have hsx := hs0.later x
    have hv0 := Lib.hid (show vmatch ns ss m = (if m.length ≠ ns.length then 15 else if m.any (outB (-1) ((ss.length : Int) - 1)) then 3 else if ruleF (tabOf ns ss) m 0 then 16 else if haveF m m 0 then 11 else 0) by rw [vmatch, if_neg (by simpa using h0)])
    rw [h0]
    clear h0 hn hs hm hn0 hs0
    by_cases h1 : m.length = ns.length
    rotate_left
    · have hv := Lib.hid (show vmatch ns ss m = 15 by rw [hv0.out, if_pos h1])
      have hb : ((m.length : Int) != (ns.length : Int)) = true := by simp; omega
      go_wp2
      go_ret2
      exact ⟨none, (Later.new _ _).step x, ret_two hv.out.symm, rfl, fun h => by rw [hv.out] at h; cases h⟩
    · have hb : ((m.length : Int) != (ns.length : Int)) = false := by simp; omega
      have hv1 := Lib.hid (show vmatch ns ss m = (if m.any (outB (-1) ((ss.length : Int) - 1)) then 3 else if ruleF (tabOf ns ss) m 0 then 16 else if haveF m m 0 then 11 else 0) by rw [hv0.out, if_neg (by simpa using h1)])
      replace h1 := Lib.hid h1
      cases h2 : m.any (outB (-1) ((ss.length : Int) - 1))
      rotate_left
      · have hv := Lib.hid (show vmatch ns ss m = 3 by rw [hv1.out, if_pos h2])
        go_wp2_with (go_at_call 60; refine (within_calls _ m (-1) ((ss.length : Int) - 1) _ hm1).mono ?_; rintro e w' ⟨rfl, y, rfl⟩)
        go_ret2
        exact ⟨none, ((Later.new _ _).step x).step y, ret_two hv.out.symm, rfl, fun h => by rw [hv.out] at h; cases h⟩
      · have hv2 := Lib.hid (show vmatch ns ss m = (if ruleF (tabOf ns ss) m 0 then 16 else if haveF m m 0 then 11 else 0) by rw [hv1.out, if_neg (by rw [h2]; simp)])
        go_wp2_with (go_at_call 60; refine (within_calls _ m (-1) ((ss.length : Int) - 1) _ hm1).mono ?_; rintro e w' ⟨rfl, y, rfl⟩)
        replace hC := hC.later y
        have hm2 := hm1.later y
        clear hv0 hv1 h2 hb hm1 hm0
        have hle : w.heap.size ≤ x.w.heap.size := by have := x.size; simp at this; omega
        have hle2 : x.w.heap.size ≤ y.w.heap.size := y.size
        obtain ⟨B, mp, nv, sv, e, hbB, c0, c1, c2, hrn, hrs, hT⟩ := (hC.court (hnx.later y) (hsx.later y)).open
        clear hnx hsx
        cases e
        go_wp2
        go_loopw [40] (fun i wr => ∃ k : Nat, ∃ z : Later y.w, wr = z.w ∧ k ≤ m.length ∧ i = .int .i64 k ∧ Hid (ruleF (tabOf ns ss) m 0 = ruleF (tabOf ns ss) (m.drop k) k)) (fun i _ => m.length - (intOf i).toNat)
        case atStart => exact ⟨0, Later.self _, rfl, Nat.zero_le _, rfl, rfl⟩
        case round =>
          obtain ⟨k, z, rfl, hk, rfl, hp⟩ := hrel
          have c2' := (z.cell (o := 2) hbB).trans c2
          have hlk := look_court2 (hT.later z)
          by_cases hlt : k < m.length
          · obtain ⟨bm, om, cmm, e, hcp, hbm, hcm⟩ := hm2.at (k := k) hlt
            cases e
            have hcell := (z.cell hbm).trans (hcm k hlt)
            have hs := Lib.hid (ruleF_at (tabOf ns ss) m k hlt)
            clear hcm
            cases h0 : decide (0 ≤ nth m k)
            · have h0' : ¬ (0 ≤ nth m k) := by simpa using h0
              go_wp2
              go_roundw
              case rel => exact ⟨k + 1, z.step (Later.new _ _), rfl, by omega, by go_num, by unfold Hid; rw [hp.out, hs.out, h0, Bool.false_and, Bool.false_or]⟩
              case measure => simp [intOf]; omega
            · have h0' : 0 ≤ nth m k := by simpa using h0
              cases hin : inM (tabOf ns ss) k (nth m k)
              all_goals
                have hlk' := hlk k (nth m k)
                rw [hin] at hlk'
                clear hlk
                go_wp2
              · have hv := Lib.hid (show vmatch ns ss m = 16 by rw [hv2.out, hp.out, hs.out, h0, hin]; rfl)
                go_ret2
                exact ⟨none, (((Later.new _ _).step x).step y).step (z.step (Later.new _ _)), ret_two hv.out.symm, rfl, fun h => by rw [hv.out] at h; cases h⟩
              · go_roundw
                case rel => exact ⟨k + 1, z.step (Later.new _ _), rfl, by omega, by go_num, by unfold Hid; rw [hp.out, hs.out, h0, hin]; rfl⟩
                case measure => simp [intOf]; omega
          · have he := Lib.hid (ruleF_end (tabOf ns ss) m k (by omega))
            have hv3 := Lib.hid (show vmatch ns ss m = (if haveF m m 0 then 11 else 0) by rw [hv2.out, hp.out, he.out]; rfl)
            replace hC := hC.later z
            replace hm2 := hm2.later z
            clear hlk c2' c0 c1 c2 hrn hrs hT hbB hv2 hp he
            have hle3 : y.w.heap.size ≤ z.w.heap.size := z.size
            go_wp2
            go_loopw [65] (fun i wr => ∃ k : Nat, ∃ u : Later z.w, wr = u.w ∧ k ≤ m.length ∧ i = .int .i64 k ∧ Hid (haveF m m 0 = haveF m (m.drop k) k)) (fun i _ => m.length - (intOf i).toNat)
            case atStart => exact ⟨0, Later.self _, rfl, Nat.zero_le _, rfl, rfl⟩
            case round =>
              obtain ⟨j, u, rfl, hj, rfl, hp⟩ := hrel
              by_cases hjl : j < m.length
              · obtain ⟨bm, om, cmm, e, hcp, hbm, hcm⟩ := hm2.at (k := j) hjl
                cases e
                have hcell := (u.cell hbm).trans (hcm j hjl)
                have hs := Lib.hid (haveF_at m m j hjl)
                clear hcm
                cases h0 : decide (0 ≤ nth m j)
                · have h0' : ¬ (0 ≤ nth m j) := by simpa using h0
                  go_wp2
                  go_roundw
                  case rel => exact ⟨j + 1, u, rfl, by omega, by go_num, by unfold Hid; rw [hp.out, hs.out, h0, Bool.false_and, Bool.false_or]⟩
                  case measure => simp [intOf]; omega
                · have h0' : 0 ≤ nth m j := by simpa using h0
                  cases hin : (m.take j).any (isN (nth m j))
                  · go_wp2_with (go_at_call 80; (with_reducible refine (Contains_calls _ (m.take j) _ _ ?_).mono ?_); (exact (hm2.later u).take j (by omega) _ (by omega)); rintro e w' ⟨rfl, rfl⟩)
                    go_roundw
                    case rel => exact ⟨j + 1, u, rfl, by omega, by go_num, by unfold Hid; rw [hp.out, hs.out, h0, hin]; rfl⟩
                    case measure => simp [intOf]; omega
                  · have hv := Lib.hid (show vmatch ns ss m = 11 by rw [hv3.out, hp.out, hs.out, h0, hin]; rfl)
                    go_wp2_with (go_at_call 80; (with_reducible refine (Contains_calls _ (m.take j) _ _ ?_).mono ?_); (exact (hm2.later u).take j (by omega) _ (by omega)); rintro e w' ⟨rfl, rfl⟩)
                    go_ret2
                    exact ⟨none, ((((Later.new _ _).step x).step y).step z).step u, ret_two hv.out.symm, rfl, fun h => by rw [hv.out] at h; cases h⟩
              · have he := Lib.hid (haveF_end m m j (by omega))
                have hv := Lib.hid (show vmatch ns ss m = 0 by rw [hv3.out, hp.out, he.out]; rfl)
                replace hC := hC.later u
                go_wp2
                go_ret2
                exact ⟨_, ((((Later.new _ _).step x).step y).step z).step u, ret_two hv.out.symm, rfl, fun _ => hC⟩
end Go.Proofs.Ytieaibebnkdmhaa
