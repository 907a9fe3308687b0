import Derived.Test.YtieaibebnkdmhaaBetter
namespace Go.Proofs.Ytieaibebnkdmhaa
open Go.RowKit

set_option maxRecDepth 100000 in
set_option maxHeartbeats 2000000 in
theorem Worse_calls (nv sv mv lv : Value) (ns ss : List (List Int)) (m l : List Int) (w : World) (hn : Rows2 w nv ns) (hs : Rows2 w sv ss) (hm : Ints w mv m) (hl : Ints w lv l) :
    Calls Try.prog 37 #[.agg #[nv, sv], mv, lv] w (GivesL (WorseR ns ss m l) (vsett ns ss m l) w) := by
  obtain ⟨an, cn, rfl⟩ := hn.form
  obtain ⟨aS, cS, rfl⟩ := hs.form
  have hn0 : Rows2 (w.alloc (.cells #[.slice an ns.length cn, .slice aS ss.length cS] 24)) _ _ := hn.later (Later.new _ _)
  have hs0 : Rows2 (w.alloc (.cells #[.slice an ns.length cn, .slice aS ss.length cS] 24)) _ _ := hs.later (Later.new _ _)
  have hm0 : Ints (w.alloc (.cells #[.slice an ns.length cn, .slice aS ss.length cS] 24)) _ _ := hm.later (Later.new _ _)
  have hl0 : Ints (w.alloc (.cells #[.slice an ns.length cn, .slice aS ss.length cS] 24)) _ _ := hl.later (Later.new _ _)
  go_enter Try.func37, Try.ntmps37
  go_wp2_with fail
  refine (settled_calls _ _ _ _ ns ss m l _ hn0 hs0 hm0 hl0).mono ?_
  rintro e w' ⟨c, x, rfl, rfl, hC⟩
  by_cases h0 : vsett ns ss m l = 0
  rotate_left
  · have hb : (vsett ns ss m l == 0) = false := by simpa using h0
    have hv := Lib.hid (show WorseR ns ss m l = [] by rw [WorseR, if_neg h0])
    have hbb : (vsett ns ss m l != 0) = true := by simpa using h0
    go_wp2
    go_ret2
    exact ⟨_, ((Later.new _ _).step x).step (Later.new _ _), ret_two rfl, rfl, by rw [hv.out]; exact Ints.nil none 0⟩
  · have hv := Lib.hid (show WorseR ns ss m l = (List.range m.length).map (fun (i : Nat) => bestW (tabOf ns ss) i (nth m i) (nth l i)) by rw [WorseR, if_pos h0])
    obtain ⟨hv1, hv2, _⟩ := vsett_parts h0
    have hlen := vbook_len (vmatch_book hv1)
    have hml := vmatch_len hv1
    have hll := vmatch_len hv2
    have hC0 := (hC h0).court (hn0.later x) (hs0.later x)
    obtain ⟨x', hx'⟩ : ∃ x' : Later (w.alloc (.cells #[.slice an ns.length cn, .slice aS ss.length cS] 24)), x.w.alloc (.cells #[.pointer c] 67) = x'.w := ⟨x.step (Later.new _ _), rfl⟩
    have hC1 : Court x'.w (.pointer c) ns ss (tabOf ns ss) := by rw [← hx']; exact hC0.later (Later.new _ _)
    have hm1 := hm0.later x'
    have hl1 := hl0.later x'
    have hF0 : Boxed x'.w x.w.heap.size 67 (.pointer c) := by rw [← hx']; exact Boxed.new _ _ _
    have h0' := Lib.hid h0
    rw [h0]
    have hcl := Clone_calls mv m x'.w hm1 (by omega) (by omega)
    clear h0 hC hv1 hv2
    go_wp2_with fail
    try rw [hx']
    refine hcl.mono ?_
    rintro e w' ⟨bo, co, rest, y, rfl, rfl, hO, hbo, hco⟩
    obtain ⟨bF, hbF⟩ : ∃ bF, bF = x.w.heap.size := ⟨_, rfl⟩
    go_wp2
    rw [← hbF] at hF0 ⊢
    clear hx' hC0 hbF x
    obtain ⟨x, rfl⟩ : ∃ x : Later (w.alloc (.cells #[.slice an ns.length cn, .slice aS ss.length cS] 24)), x = x' := ⟨_, rfl⟩
    obtain ⟨r, hr⟩ : ∃ r, (List.range m.length).map (fun (i : Nat) => bestW (tabOf ns ss) i (nth m i) (nth l i)) = r := ⟨_, rfl⟩
    have hrl : r.length = m.length := by rw [← hr]; simp
    have hrn : ∀ k, k < m.length → nth r k = bestW (tabOf ns ss) k (nth m k) (nth l k) := fun k hk => by rw [nth_eq (by omega)]; simp [← hr]
    rw [hr] at hv
    have hF := hF0.later y
    have hO1 := hO
    have hB1 := y.le
    have hF1 : bF + 1 ≤ y.w.heap.size := hF.lt
    have hFx : bF < x.w.heap.size := hF0.lt
    have hbne : bF ≠ bo := by omega
    have hl2 := Lib.hid hll
    have hm2 := Lib.hid hml
    clear hr hll hml hcl
    go_loopw [26] (fun i wr => ∃ k : Nat, k ≤ ns.length ∧ i = .int .i64 k ∧ Below x.w.heap.size x.w wr ∧ bF + 1 ≤ wr.heap.size ∧ Boxed wr bF 67 (.pointer c) ∧ Row wr bo (part r m k) rest 3) (fun i _ => ns.length - (intOf i).toNat)
    case atStart => exact ⟨0, Nat.zero_le _, rfl, hB1, hF1, hF, by rw [part_zero]; exact hO1⟩
    case round =>
      clear hB1 hF1 hF hO1
      obtain ⟨k, hk, rfl, hB, hFs, hF, hO⟩ := hrel
      by_cases hlt : k < ns.length
      · obtain ⟨bm, om, cm, rfl, hcpm, hbm, hcm⟩ := hm1.at (k := k) (by have := hm2.out; omega)
        obtain ⟨bl, ol, cl, rfl, hcpl, hbl, hcl⟩ := hl1.at (k := k) (by have := hl2.out; omega)
        have gm := (hB.cell (p := ⟨bm, om + k, none⟩) hbm).trans (hcm k (by have := hm2.out; omega))
        have gl := (hB.cell (p := ⟨bl, ol + k, none⟩) hbl).trans (hcl k (by have := hl2.out; omega))
        have hm3 := hm2.out
        have hl3 := hl2.out
        have hsB := hB.size
        have sm : bm < wr.heap.size := by omega
        have sl : bl < wr.heap.size := by omega
        have hcond : k < m.length := by omega
        have hcond2 : k < l.length := by omega
        have hpl : (part r m k).length = m.length := part_len r m k hrl (by omega)
        clear hcm hcl hm3 hl3
        go_wp2
        refine Mix.region_mixL (Mix.kinds [] [11] [13]) (by kernel_rfl) (by kernel_rfl) ?_
        repeat ((with_reducible refine Mix.atCons ?_); first | refine Mix.skipU (by rfl) rfl (by rfl) ?_ | (refine Mix.val rfl rfl (by rfl) (fun K hK => ?_); go_big_quiet_op; refine hK _ ?_; clear hK K))
        refine Mix.loud rfl (by rfl) (fun x1 K hK => ?_)
        go_wp2_with fail
        have hBx : Below x.w.heap.size x.w x1.w := (hB.alloc hB.size _).trans (x1.le.mono (by simp; omega))
        have hC2 : Court x1.w (.pointer c) ns ss (tabOf ns ss) := hC1.later ⟨x1.w, hBx⟩
        have hi : x1.w.cell? ⟨wr.heap.size, 0, none⟩ = some (.int .i64 (k : Int)) := (x1.cell (o := 0) (by simp)).trans (Boxed.new wr 3 (.int .i64 (k : Int))).cell
        have hf : x1.w.cell? ⟨bF, 0, none⟩ = some (.pointer c) := (x1.cell (o := 0) (by simp; omega)).trans (hF.alloc _).cell
        refine (best_worse _ ns ss _ _ _ _ _ _ _ hC2 hf hi).mono ?_
        rintro e w' ⟨rfl, x2, rfl⟩
        refine hK _ x2 ?_
        clear hK K hf hi hC2
        repeat ((with_reducible refine Mix.atCons ?_); first | refine Mix.skipU (by rfl) rfl (by rfl) ?_ | (refine Mix.val rfl rfl (by rfl) (fun K hK => ?_); go_big_quiet_op; refine hK _ ?_; clear hK K))
        refine Mix.last rfl (by rfl) (fun x3 K hK => ?_)
        have hO3 : Row x3.w bo (part r m k) rest 3 := (((hO.later (Later.new _ _)).later x1).later x2).later x3
        have hF3 : Boxed x3.w bF _ _ := (((hF.later (Later.new _ _)).later x1).later x2).later x3
        have hcO := hO3.cell (k := k) (by omega)
        have hfO := hO3.frozen k
        have hset := hO3.set k (by omega) (bestW (tabOf ns ss) k (nth m k) (nth l k))
        rw [← hrn k hcond, part_set r m k hrl hcond, hrn k hcond] at hset
        have hB3 : Below x.w.heap.size x.w x3.w := hBx.trans ((x2.step x3).le.mono hBx.size)
        have hs3 : bF + 1 ≤ x3.w.heap.size := Nat.le_trans (Nat.le_trans hFs (by simp [go_sem] : wr.heap.size ≤ (wr.alloc (.cells #[.int .i64 (k : Int)] 3)).heap.size)) ((x1.step x2).step x3).size
        go_wp2_with fail
        refine Mix.done (fun x4 => ?_)
        go_wp2
        go_roundw
        case rel => exact ⟨k + 1, by omega, by go_num, (hB3.setCell (p := ⟨bo, k, none⟩) hbo _).trans (x4.le.mono (by simp; exact hB3.size)), Nat.le_trans hs3 (Nat.le_trans (by simp) x4.size), (hF3.kept (grownBy_setCell_at x3.w bo k _) (by simp; omega)).later x4, hset.later x4⟩
        case measure => simp [intOf]; omega
      · have hm3 := hm2.out
        rw [part_end r m k hrl (by omega)] at hO
        have hfin := hO.ints (hm2.out.symm.trans hrl.symm) (by omega) (cap := co) (by omega)
        go_wp2
        go_ret2
        exact ⟨_, ⟨_, (((Later.new _ _).step x).le.trans (hB.mono (by have := ((Later.new w (.cells #[.slice an ns.length cn, .slice aS ss.length cS] 24)).step x).size; exact this)))⟩, ret_two h0'.out.symm, rfl, by rw [hv.out]; exact hfin⟩
end Go.Proofs.Ytieaibebnkdmhaa
