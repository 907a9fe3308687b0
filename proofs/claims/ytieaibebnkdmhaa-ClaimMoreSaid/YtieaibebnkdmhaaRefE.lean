import Derived.Test.YtieaibebnkdmhaaRefD
namespace Go.Proofs.Ytieaibebnkdmhaa
open Go.RowKit

set_option maxRecDepth 100000 in
set_option maxHeartbeats 1000000 in
theorem refCheckMatching_calls (nv sv mv : Value) (ns ss : List (List Int)) (m : List Int) (w : World) (hn : Rows2 w nv ns) (hs : Rows2 w sv ss) (hm : Ints w mv m) :
    Calls Try.prog 20 #[.agg #[nv, sv], mv] w (Gives (.tuple #[.int .i64 (cmat ns ss m), .int .i64 (vmatch ns ss m)]) w) := by
  have hln := hn.1
  have hls := hs.1
  have hlm := hm.1
  obtain ⟨an, cn, rfl⟩ := hn.form
  obtain ⟨aS, cS, rfl⟩ := hs.form
  obtain ⟨am, cm, rfl⟩ := hm.form
  by_cases h0 : vbook ns ss = 0
  rotate_left
  · have hbb : (vbook ns ss != 0) = true := by simpa using h0
    have hv := Lib.hid (vmatch_book_ne (m := m) h0)
    have hv2 := Lib.hid (show cmat ns ss m = 0 by rw [cmat, if_neg (by rw [hv.out]; exact h0)])
    clear h0
    go_enter Try.func20, Try.ntmps20
    go_wp2_with fail
    obtain ⟨B, hB⟩ : ∃ B, B = w.heap.size := ⟨_, rfl⟩
    obtain ⟨z, hz⟩ : ∃ z : Later w, z.w = w.alloc (.cells #[.slice an ns.length cn, .slice aS ss.length cS] 24) := ⟨Later.new _ _, rfl⟩
    have c0 : z.w.cell? ⟨B, 0, none⟩ = some (.slice an ns.length cn) := by rw [hz, hB]; simp [go_sem]
    have c1 : z.w.cell? ⟨B, 1, none⟩ = some (.slice aS ss.length cS) := by rw [hz, hB]; simp [go_sem]
    have hBz : B < z.w.heap.size := by rw [hz, hB]; simp [go_sem]
    have HZ : Hid (z.w.heap.size = B + 1) := Lib.hid (by rw [hz, hB]; simp)
    rw [← hz, ← hB]
    replace hn := hn.later z
    replace hs := hs.later z
    replace hm := hm.later z
    clear hz hB
    refine (refCheckBook_calls _ _ ns ss _ hn hs).mono ?_
    rintro e w' ⟨rfl, x, rfl⟩
    go_wp2_with fail
    refine (refCheckBook_calls _ _ ns ss _ (hn.later x) (hs.later x)).mono ?_
    rintro e w' ⟨rfl, y, rfl⟩
    go_wp2
    go_ret2
    exact ⟨ret_two2 hv2.out.symm hv.out.symm, (z.step x).step y, rfl⟩
  have h0' := Lib.hid h0
  by_cases hl : m.length = ns.length
  rotate_left
  · have hv := Lib.hid (vmatch_len_ne h0 hl)
    have hv2 := Lib.hid (show cmat ns ss m = 0 by rw [cmat, if_neg (by rw [hv.out]; decide)])
    have hne : ((m.length : Int) != (ns.length : Int)) = true := by simp; omega
    clear h0
    go_enter Try.func20, Try.ntmps20
    go_wp2_with fail
    obtain ⟨B, hB⟩ : ∃ B, B = w.heap.size := ⟨_, rfl⟩
    obtain ⟨z, hz⟩ : ∃ z : Later w, z.w = w.alloc (.cells #[.slice an ns.length cn, .slice aS ss.length cS] 24) := ⟨Later.new _ _, rfl⟩
    have c0 : z.w.cell? ⟨B, 0, none⟩ = some (.slice an ns.length cn) := by rw [hz, hB]; simp [go_sem]
    have c1 : z.w.cell? ⟨B, 1, none⟩ = some (.slice aS ss.length cS) := by rw [hz, hB]; simp [go_sem]
    have hBz : B < z.w.heap.size := by rw [hz, hB]; simp [go_sem]
    have HZ : Hid (z.w.heap.size = B + 1) := Lib.hid (by rw [hz, hB]; simp)
    rw [← hz, ← hB]
    replace hn := hn.later z
    replace hs := hs.later z
    replace hm := hm.later z
    clear hz hB
    refine (refCheckBook_calls _ _ ns ss _ hn hs).mono ?_
    rintro e w' ⟨rfl, x, rfl⟩
    rw [h0'.out]
    go_wp2
    go_ret2
    exact ⟨ret_two2 hv2.out.symm hv.out.symm, z.step x, rfl⟩
  have hne : ((m.length : Int) != (ns.length : Int)) = false := by simp; omega
  have hlen := Lib.hid hl
  clear h0 hl
  go_enter Try.func20, Try.ntmps20
  go_wp2_with fail
  obtain ⟨B, hB⟩ : ∃ B, B = w.heap.size := ⟨_, rfl⟩
  obtain ⟨z, hz⟩ : ∃ z : Later w, z.w = w.alloc (.cells #[.slice an ns.length cn, .slice aS ss.length cS] 24) := ⟨Later.new _ _, rfl⟩
  have c0 : z.w.cell? ⟨B, 0, none⟩ = some (.slice an ns.length cn) := by rw [hz, hB]; simp [go_sem]
  have c1 : z.w.cell? ⟨B, 1, none⟩ = some (.slice aS ss.length cS) := by rw [hz, hB]; simp [go_sem]
  have hBz : B < z.w.heap.size := by rw [hz, hB]; simp [go_sem]
  have HZ : Hid (z.w.heap.size = B + 1) := Lib.hid (by rw [hz, hB]; simp)
  rw [← hz, ← hB]
  replace hn := hn.later z
  replace hs := hs.later z
  replace hm := hm.later z
  clear hz hB
  refine (refCheckBook_calls _ _ ns ss _ hn hs).mono ?_
  rintro e w' ⟨rfl, x0, rfl⟩
  rw [h0'.out]
  go_wp2
  go_loopw [6, 7] (fun nn i wr => ∃ k : Nat, ∃ c : Nat, ∃ x : Later z.w, wr = x.w ∧ k ≤ m.length ∧ i = .int .i64 k ∧ nn = .int .i64 c ∧ c ≤ k ∧ Hid (cntF m = c + cntF (m.drop k)) ∧ Hid (∀ j, j < k → outB (-1) ((ss.length : Int) - 1) (nth m j) = false)) (fun _ i _ => m.length - (intOf i).toNat)
  case atStart => exact ⟨0, 0, x0, rfl, Nat.zero_le _, rfl, rfl, Nat.le_refl _, by simp [Hid], fun j hj => absurd hj (Nat.not_lt_zero _)⟩
  case round =>
    clear x0
    obtain ⟨k, c, x, rfl, hk, rfl, rfl, hck, hp, hq⟩ := hrel
    by_cases hlt : k < m.length
    · obtain ⟨b, off, cap, e, hcp, hb, hc⟩ := hm.at hlt
      cases e
      have gx := (x.cell hb).trans (hc k hlt)
      have sx : b < x.w.heap.size := Nat.lt_of_lt_of_le hb x.size
      clear hc
      by_cases hbad : outB (-1) ((ss.length : Int) - 1) (nth m k) = true
      · have hv := Lib.hid (vmatch_range h0'.out hlen.out hlt hbad)
        have hv2 := Lib.hid (show cmat ns ss m = 0 by rw [cmat, if_neg (by rw [hv.out]; decide)])
        simp only [outB, Bool.or_eq_true, decide_eq_true_eq] at hbad
        cases hlo : decide (nth m k < -1)
        · have hhi : (ss.length : Int) ≤ nth m k := by have := of_decide_eq_false hlo; omega
          clear hbad
          go_wp2
          refine region_later_lit (by kernel_rfl) (by kernel_rfl) ?_
          repeat (first | simp only [hlo] | go_big_quiet_step (first
               | (fail)))
          refine wpQuiet_nil ?_
          intro y
          go_wp2
          go_ret2
          exact ⟨ret_two2 hv2.out.symm hv.out.symm, (z.step x).step y, rfl⟩
        · clear hbad
          go_wp2
          refine region_later_lit (by kernel_rfl) (by kernel_rfl) ?_
          repeat (first | simp only [hlo] | go_big_quiet_step (first
               | (fail)))
          refine wpQuiet_nil ?_
          intro y
          go_wp2
          go_ret2
          exact ⟨ret_two2 hv2.out.symm hv.out.symm, (z.step x).step y, rfl⟩
      · have hok := Lib.hid (show outB (-1) ((ss.length : Int) - 1) (nth m k) = false by simpa using hbad)
        have hlo : decide (nth m k < -1) = false := by have := hok.out; simp only [outB, Bool.or_eq_false_iff] at this; exact this.1
        have hhi : ¬ (ss.length : Int) ≤ nth m k := by have := hok.out; simp only [outB, Bool.or_eq_false_iff, decide_eq_false_iff_not] at this; omega
        have hq2 : Hid (∀ j, j < k + 1 → outB (-1) ((ss.length : Int) - 1) (nth m j) = false) := fun j hj => by
          by_cases e : j = k
          · subst e; exact hok.out
          · exact hq.out j (by omega)
        clear hbad hq
        by_cases h0 : 0 ≤ nth m k
        · have hs := Lib.hid (show cntF (m.drop k) = 1 + cntF (m.drop (k + 1)) by rw [cntF_at m k hlt, if_pos h0])
          go_wp2
          refine region_later_lit (by kernel_rfl) (by kernel_rfl) ?_
          repeat (first | simp only [hlo] | go_big_quiet_step (first
               | (fail)))
          refine wpQuiet_nil ?_
          intro y
          go_wp2
          go_roundw
          case rel => exact ⟨k + 1, c + 1, x.step y, rfl, by omega, by go_num, by go_num, by omega, by unfold Hid; rw [hp.out, hs.out]; omega, hq2⟩
          case measure => simp [intOf]; omega
        · have hs := Lib.hid (show cntF (m.drop k) = cntF (m.drop (k + 1)) by rw [cntF_at m k hlt, if_neg h0]; omega)
          go_wp2
          refine region_later_lit (by kernel_rfl) (by kernel_rfl) ?_
          repeat (first | simp only [hlo] | go_big_quiet_step (first
               | (fail)))
          refine wpQuiet_nil ?_
          intro y
          go_wp2
          go_roundw
          case rel => exact ⟨k + 1, c, x.step y, rfl, by omega, by go_num, rfl, by omega, by unfold Hid; rw [hp.out, hs.out], hq2⟩
          case measure => simp [intOf]; omega
    · have hall := Lib.hid (show ∀ j, j < m.length → outB (-1) ((ss.length : Int) - 1) (nth m j) = false from fun j hj => hq.out j (by omega))
      have hcnt := Lib.hid (show cntF m = c by rw [hp.out, cntF_end m k (by omega)]; omega)
      have hvm := Lib.hid (vmatch_in h0'.out hlen.out hall.out)
      clear hp hq
      go_wp2
      go_loopw [8] (fun i wr => ∃ k : Nat, ∃ x : Later z.w, wr = x.w ∧ k ≤ m.length ∧ i = .int .i64 k ∧ Hid (∀ j, j < k → ruleB ns ss m j = false)) (fun i _ => m.length - (intOf i).toNat)
      case atStart => exact ⟨0, x, rfl, Nat.zero_le _, rfl, fun j hj => absurd hj (Nat.not_lt_zero _)⟩
      case round =>
        clear hlt hk hck x
        obtain ⟨k, x, rfl, hk, rfl, hq⟩ := hrel
        by_cases hlt : k < m.length
        · obtain ⟨b, off, cap, e, hcp, hb, hc⟩ := hm.at hlt
          cases e
          have gx := (x.cell hb).trans (hc k hlt)
          have sx : b < x.w.heap.size := Nat.lt_of_lt_of_le hb x.size
          clear hc
          cases h0 : decide (0 ≤ nth m k)
          · have hok := Lib.hid (show ruleB ns ss m k = false by rw [ruleB, h0]; rfl)
            go_wp2
            refine region_later_lit (by kernel_rfl) (by kernel_rfl) ?_
            repeat (first | simp only [h0] | go_big_quiet_step (first
                 | (fail)))
            refine wpQuiet_nil ?_
            intro y
            go_wp2
            go_roundw
            case rel =>
              refine ⟨k + 1, x.step y, rfl, by omega, by go_num, fun j hj => ?_⟩
              by_cases e : j = k
              · subst e; exact hok.out
              · exact hq.out j (by omega)
            case measure => simp [intOf]; omega
          · have hle : 0 ≤ nth m k := of_decide_eq_true h0
            have hst := Lib.hid (show (((nth m k).toNat : Nat) : Int) = nth m k by omega)
            have hsl : (nth m k).toNat < ss.length := by have := hall.out k hlt; simp only [outB, Bool.or_eq_false_iff, decide_eq_false_iff_not] at this; omega
            have hkn : k < ns.length := by have := hlen.out; omega
            have hpc := fun W (x : Later z.w) (h : W = x.w) => Pair_calls _ _ ns ss k (nth m k).toNat W (h ▸ hn.later x) (h ▸ hs.later x) hkn hsl
            rw [hst.out] at hpc
            have HP := Lib.hid hpc
            clear hpc
            cases hb2 : pairB ns ss k (nth m k)
            · have hbad := Lib.hid (show vmatch ns ss m = 16 by rw [hvm.out, if_pos ⟨k, hlt, by rw [ruleB, hb2, h0]; rfl⟩])
              have hv2 := Lib.hid (show cmat ns ss m = 0 by rw [cmat, if_neg (by rw [hbad.out]; decide)])
              go_wp2
              refine region_later_lit (by kernel_rfl) (by kernel_rfl) ?_
              repeat (first | simp only [h0] | simp only [hb2] | go_big_quiet_step (first
                   | (go_at_call 55; exact Later.quiet _ (HP.out _ (x.step _) rfl))))
              refine wpQuiet_nil ?_
              intro y
              go_wp2
              go_ret2
              exact ⟨ret_two2 hv2.out.symm hbad.out.symm, (z.step x).step y, rfl⟩
            · have hok := Lib.hid (show ruleB ns ss m k = false by rw [ruleB, hb2]; simp)
              go_wp2
              refine region_later_lit (by kernel_rfl) (by kernel_rfl) ?_
              repeat (first | simp only [h0] | simp only [hb2] | go_big_quiet_step (first
                   | (go_at_call 55; exact Later.quiet _ (HP.out _ (x.step _) rfl))))
              refine wpQuiet_nil ?_
              intro y
              go_wp2
              go_roundw
              case rel =>
                refine ⟨k + 1, x.step y, rfl, by omega, by go_num, fun j hj => ?_⟩
                by_cases e : j = k
                · subst e; exact hok.out
                · exact hq.out j (by omega)
              case measure => simp [intOf]; omega
        · have hall2 := Lib.hid (show ¬ ∃ j, j < m.length ∧ ruleB ns ss m j = true from fun ⟨j, hj, h⟩ => by rw [hq.out j (by omega)] at h; cases h)
          clear hq
          go_wp2
          go_loopw [9] (fun i wr => ∃ k : Nat, ∃ x : Later z.w, wr = x.w ∧ k ≤ m.length ∧ i = .int .i64 k ∧ Hid (∀ j, j < k → haveB m j = false)) (fun i _ => m.length - (intOf i).toNat)
          case atStart => exact ⟨0, x, rfl, Nat.zero_le _, rfl, fun j hj => absurd hj (Nat.not_lt_zero _)⟩
          case round =>
            clear hlt hk x
            obtain ⟨k, x, rfl, hk, rfl, hq⟩ := hrel
            by_cases hlt : k < m.length
            · obtain ⟨b, off, cap, e, hcp, hb, hc⟩ := hm.at hlt
              cases e
              have gx := (x.cell hb).trans (hc k hlt)
              have sx : b < x.w.heap.size := Nat.lt_of_lt_of_le hb x.size
              clear hc
              cases h0 : decide (0 ≤ nth m k)
              · have hok := Lib.hid (show haveB m k = false by rw [haveB, h0]; rfl)
                go_wp2
                go_roundw
                case rel =>
                  refine ⟨k + 1, x, rfl, by omega, by go_num, fun j hj => ?_⟩
                  by_cases e : j = k
                  · subst e; exact hok.out
                  · exact hq.out j (by omega)
                case measure => simp [intOf]; omega
              · cases hb2 : (plc m (nth m k) != (k : Int))
                · have hok := Lib.hid (show haveB m k = false by rw [haveB, hb2]; simp)
                  go_wp2_with (go_at_call 45; (with_reducible refine (Place_calls _ m _ _ (hm.later x)).mono ?_); rintro e w' ⟨rfl, rfl⟩)
                  go_roundw
                  case rel =>
                    refine ⟨k + 1, x, rfl, by omega, by go_num, fun j hj => ?_⟩
                    by_cases e : j = k
                    · subst e; exact hok.out
                    · exact hq.out j (by omega)
                  case measure => simp [intOf]; omega
                · have hbad := Lib.hid (show vmatch ns ss m = 11 by rw [hvm.out, if_neg hall2.out, if_pos ⟨k, hlt, by rw [haveB, hb2, h0]; rfl⟩])
                  have hv2 := Lib.hid (show cmat ns ss m = 0 by rw [cmat, if_neg (by rw [hbad.out]; decide)])
                  go_wp2_with (go_at_call 45; (with_reducible refine (Place_calls _ m _ _ (hm.later x)).mono ?_); rintro e w' ⟨rfl, rfl⟩)
                  go_ret2
                  exact ⟨ret_two2 hv2.out.symm hbad.out.symm, z.step x, rfl⟩
            · have hall3 := Lib.hid (show ¬ ∃ j, j < m.length ∧ haveB m j = true from fun ⟨j, hj, h⟩ => by rw [hq.out j (by omega)] at h; cases h)
              have hv := Lib.hid (show vmatch ns ss m = 0 by rw [hvm.out, if_neg hall2.out, if_neg hall3.out])
              have hv2 := Lib.hid (show cmat ns ss m = c by rw [cmat, if_pos hv.out, hcnt.out])
              clear hq
              go_wp2
              go_ret2
              exact ⟨ret_two2 hv2.out.symm hv.out.symm, z.step x, rfl⟩
end Go.Proofs.Ytieaibebnkdmhaa
