import Derived.Test.YtieaibebnkdmhaaClaims
import Derived.Test.YtieaibebnkdmhaaPlain1
namespace Go.Proofs.Ytieaibebnkdmhaa
open Go.RowKit

theorem vbook_len {ns ss : List (List Int)} (h : vbook ns ss = 0) : 1 ≤ ns.length ∧ ns.length ≤ 6 ∧ 1 ≤ ss.length ∧ ss.length ≤ 6 := by
  obtain ⟨h1, h2, h3, h4, _⟩ := vbook_valid h; exact ⟨h1, h2, h3, h4⟩
theorem tab_rng {ns ss : List (List Int)} (hn : ∀ l ∈ ns, l.Nodup) (hs : ∀ l ∈ ss, l.Nodup) (n s : Int) (hi : inM (tabOf ns ss) n s = true) : 0 ≤ n ∧ n < ns.length ∧ 0 ≤ s ∧ s < ss.length := by
  obtain ⟨h1, h2, h3, h4, _⟩ := (inM_iff hn hs n s).1 hi; exact ⟨h1, h2, h3, h4⟩

/-- What First says: the list, and the error. -/
def FirstR (ns ss : List (List Int)) : List Int := if vbook ns ss = 0 then claimsF (tabOf ns ss) ns else []
/-- a list, and an error -/
def GivesL (xs : List Int) (v : Int) (w : World) (e : Ending) (w' : World) : Prop := ∃ l, ∃ x : Later w, e = .returned (.tuple #[l, .int .i64 v]) ∧ w' = x.w ∧ Ints x.w l xs

set_option maxRecDepth 100000 in
set_option maxHeartbeats 2000000 in
theorem First_calls (nv sv : Value) (ns ss : List (List Int)) (w : World) (hn : Rows2 w nv ns) (hs : Rows2 w sv ss) :
    Calls Try.prog 25 #[.agg #[nv, sv]] w (GivesL (FirstR ns ss) (vbook ns ss) w) := by
  obtain ⟨an, cn, rfl⟩ := hn.form
  obtain ⟨aS, cS, rfl⟩ := hs.form
  have hn0 : Rows2 (w.alloc (.cells #[.slice an ns.length cn, .slice aS ss.length cS] 24)) _ _ := hn.later (Later.new _ _)
  have hs0 : Rows2 (w.alloc (.cells #[.slice an ns.length cn, .slice aS ss.length cS] 24)) _ _ := hs.later (Later.new _ _)
  go_enter Try.func25, Try.ntmps25
  go_wp2_with fail
  refine (open_calls _ _ ns ss _ hn0 hs0).mono ?_
  rintro e w' ⟨c, x, rfl, rfl, hC⟩
  by_cases h0 : vbook ns ss = 0
  rotate_left
  · have hb : (vbook ns ss == 0) = false := by simpa using h0
    have hv := Lib.hid (show FirstR ns ss = [] by rw [FirstR, if_neg h0])
    have hbb : (vbook ns ss != 0) = true := by simpa using h0
    go_wp2
    go_ret2
    exact ⟨_, (Later.new _ _).step x, ret_two rfl, rfl, by rw [hv.out]; exact Ints.nil none 0⟩
  · have hv := Lib.hid (show FirstR ns ss = claimsF (tabOf ns ss) ns by rw [FirstR, if_pos h0])
    have hlen := vbook_len h0
    have hC1 := (hC h0).court (hn0.later x) (hs0.later x)
    have hrg : ∀ n s, inM (tabOf ns ss) n s = true → 0 ≤ s ∧ s < 6 := fun n s h => by have hb := vbook_valid h0; have := tab_rng hb.2.2.2.2.1 hb.2.2.2.2.2.1 n s h; omega
    have hcl := claims_calls _ ns ss (tabOf ns ss) x.w hC1 hlen.2.1 hrg
    have h0' := Lib.hid h0
    rw [h0]
    clear h0 hC hlen hrg
    go_wp2_with (go_at_call 66; refine hcl.mono ?_; rintro e w' ⟨l, y, rfl, rfl, hl⟩)
    obtain ⟨al, cl, rfl⟩ := hl.form
    go_ret2
    exact ⟨_, ((Later.new _ _).step x).step y, ret_two h0'.out.symm, rfl, by rw [hv.out]; exact hl⟩

/-- What Last says. -/
def LastR (ns ss : List (List Int)) : List Int := if vbook ns ss = 0 then (List.range ns.length).map (fun (n : Nat) => idxF (isN (n : Int)) (claimsF (tabOf ss ns) ss) 0) else []

set_option maxRecDepth 100000 in
set_option maxHeartbeats 2000000 in
theorem Last_calls (nv sv : Value) (ns ss : List (List Int)) (w : World) (hn : Rows2 w nv ns) (hs : Rows2 w sv ss) :
    Calls Try.prog 27 #[.agg #[nv, sv]] w (GivesL (LastR ns ss) (vbook ns ss) w) := by
  obtain ⟨an, cn, rfl⟩ := hn.form
  obtain ⟨aS, cS, rfl⟩ := hs.form
  have hn0 : Rows2 (w.alloc (.cells #[.slice an ns.length cn, .slice aS ss.length cS] 24)) _ _ := hn.later (Later.new _ _)
  have hs0 : Rows2 (w.alloc (.cells #[.slice an ns.length cn, .slice aS ss.length cS] 24)) _ _ := hs.later (Later.new _ _)
  by_cases h0 : vbook ns ss = 0
  rotate_left
  · have hb : (vbook ns ss == 0) = false := by simpa using h0
    have hv := Lib.hid (show LastR ns ss = [] by rw [LastR, if_neg h0])
    have hbb : (vbook ns ss != 0) = true := by simpa using h0
    go_enter Try.func27, Try.ntmps27
    go_wp2_with (go_at_call 23; refine (CheckBook_calls _ _ ns ss _ hn0 hs0).mono ?_; rintro e w' ⟨rfl, x, rfl⟩)
    go_ret2
    exact ⟨_, (Later.new _ _).step x, ret_two rfl, rfl, by rw [hv.out]; exact Ints.nil none 0⟩
  · have hv := Lib.hid (show LastR ns ss = (List.range ns.length).map (fun (n : Nat) => idxF (isN (n : Int)) (claimsF (tabOf ss ns) ss) 0) by rw [LastR, if_pos h0])
    have hlen := vbook_len h0
    have h0' := Lib.hid h0
    go_enter Try.func27, Try.ntmps27
    go_wp2_with fail
    refine (CheckBook_calls _ _ ns ss _ hn0 hs0).mono ?_
    rintro e w' ⟨rfl, x, rfl⟩
    rw [h0]
    clear h0
    go_wp2_with fail
    refine (newCourt_calls _ _ ss ns _ (hs0.later x) (hn0.later x)).mono ?_
    rintro e w' ⟨c, y, rfl, rfl, hC⟩
    have hC1 := hC.court ((hs0.later x).later y) ((hn0.later x).later y)
    obtain ⟨b, mp, rfl, _⟩ := id hC
    have hrg : ∀ n s, inM (tabOf ss ns) n s = true → 0 ≤ s ∧ s < 6 := fun n s h => by have hb := vbook_valid h0'.out; have := tab_rng hb.2.2.2.2.2.1 hb.2.2.2.2.1 n s h; omega
    have hcl := claims_calls _ ss ns (tabOf ss ns) y.w hC1 hlen.2.2.2 hrg
    have g1 : w.heap.size < x.w.heap.size := Nat.lt_of_lt_of_le (by simp [go_sem]) x.size
    have gy : w.heap.size < y.w.heap.size := Nat.lt_of_lt_of_le g1 y.size
    have c0 : y.w.cell? ⟨w.heap.size, 0, none⟩ = some (.slice an ns.length cn) := by
      rw [y.cell g1]
      exact (x.cell (o := 0) (by simp [go_sem])).trans (by simp [go_sem])
    have hmk : ∀ (w : World), (Instr.makeSlice 25 (.int .i64 (ns.length : Int)) (.int .i64 (ns.length : Int))).run Try.prog w = .ok (.slice (some ⟨w.heap.size, 0, none⟩) ns.length ns.length) (w.alloc (.cells (madeCells #[.int .i64 0] ns.length) 3)) :=
      fun w => run_make_row' _ _ _ 8 Try.underlying25 (by kernel_rfl) rfl _ _ _ (by omega) (by omega) w
    clear hC hrg hC1
    go_wp2_with (go_at_call 66; refine hcl.mono ?_; rintro e w' ⟨l, z, rfl, rfl, hl⟩; obtain ⟨al, cl, rfl⟩ := hl.form)
    have hO := row_made z.w ns.length 3 rfl
    have hbz : Below w.heap.size w z.w := (((Later.new w (.cells #[.slice an ns.length cn, .slice aS ss.length cS] 24)).step x).step y).step z |>.le
    have hgz : w.heap.size < z.w.heap.size := Nat.lt_of_lt_of_le gy z.size
    obtain ⟨r, hr⟩ : ∃ r, (List.range ns.length).map (fun (n : Nat) => idxF (isN (n : Int)) (claimsF (tabOf ss ns) ss) 0) = r := ⟨_, rfl⟩
    have hrl : r.length = ns.length := by rw [← hr]; simp
    have hrn : ∀ k, k < ns.length → nth r k = idxF (isN (k : Int)) (claimsF (tabOf ss ns) ss) 0 := fun k hk => by rw [nth_eq (by omega)]; simp [← hr]
    rw [hr] at hv
    rw [show ofs (List.replicate ns.length 0) = laid r 0 by rw [laid_zero, hrl]; simp [ofs]] at hO
    have hB2 := hbz.alloc hbz.size (.cells (madeCells #[.int .i64 0] ns.length) 3)
    have hz : (z.w.alloc (.cells (madeCells #[.int .i64 0] ns.length) 3)).heap.size = z.w.heap.size + 1 := by simp
    have hl2 : Ints z.w _ _ := hl
    clear hmk c0 hcl hr
    go_loopw [26] (fun i wr => ∃ k : Nat, k ≤ ns.length ∧ i = .int .i64 k ∧ Below z.w.heap.size z.w wr ∧ z.w.heap.size + 1 ≤ wr.heap.size ∧ Row wr z.w.heap.size (laid r k) [] 3) (fun i _ => ns.length - (intOf i).toNat)
    case atStart => exact ⟨0, Nat.zero_le _, rfl, (Below.refl _ _).alloc (Nat.le_refl _) _, by omega, hO⟩
    case round =>
      clear hB2 hz hO
      obtain ⟨k, hk, rfl, hB, hsw2, hO⟩ := hrel
      by_cases hlt : k < ns.length
      · have hHi := hl2.later ⟨wr, hB⟩
        have hll := laid_len r k (by omega)
        have hset := hO.set k (by omega) (idxF (isN (k : Int)) (claimsF (tabOf ss ns) ss) 0)
        have hcO := hO.cell (k := k) (by omega)
        have hfO := hO.frozen k
        rw [← hrn k hlt, laid_set _ _ (by omega), hrn k hlt] at hset
        go_wp2_with (go_at_call 69; (with_reducible refine (Index_calls _ _ _ _ hHi).mono ?_); rintro e w' ⟨rfl, rfl⟩)
        go_roundw
        case rel => exact ⟨k + 1, by omega, by go_num, hB.setCell (p := ⟨z.w.heap.size, k, none⟩) (Nat.le_refl _) _, by simpa using hsw2, hset⟩
        case measure => simp [intOf]; omega
      · rw [laid_end _ _ (by omega)] at hO
        have hfin := hO.ints hrl.symm (by omega) (cap := ns.length) (by omega)
        go_wp2
        go_ret2
        exact ⟨_, ⟨_, hbz.trans (hB.mono (by omega))⟩, ret_two h0'.out.symm, rfl, by rw [hv.out]; exact hfin⟩
end Go.Proofs.Ytieaibebnkdmhaa
