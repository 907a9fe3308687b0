import Derived.Laws.EntriesVeiled
import Derived.Test.YtieaibebnkdmhaaKinds
namespace Go.Proofs.Ytieaibebnkdmhaa
open Go.RowKit

/-- append([]int{}, s...): a new block -/
theorem run_append_all (w : World) (b0 : Nat) (v : Value) (xs : List Int) (hx : Ints w v xs) (h1 : 1 ≤ xs.length) (hbig : xs.length ≤ 1000000) (ty : TypeId) :
    ∃ c' rest, (Builtin.append_ #[25, 25] ty #[.slice (some ⟨b0, 0, none⟩) 0 0, v]).run Try.prog w = .ok (.slice (some ⟨w.heap.size, 0, none⟩) xs.length c') (w.drew.alloc (.cells ((xs.map (Value.int .i64)) ++ rest).toArray 3)) ∧ xs.length ≤ c' := by
  obtain ⟨i, hi, hz, hsz, hby⟩ := info_int
  obtain ⟨b, off, cap, rfl, hcp, hlt, hc⟩ := hx.at (k := 0) (by omega)
  have hs : Src Try.prog i.size 25 (.slice (some ⟨b, off, none⟩) xs.length cap) xs.length (xs.map (Value.int .i64)) w := Src.ofSlice w (e' := 3) Try.underlying25 ⟨b, off, none⟩ xs.length cap _ (by rw [hsz]; simp) (by
    intro j u hj
    rw [List.getElem?_map] at hj
    obtain ⟨x, hx, rfl⟩ := Option.map_eq_some_iff.1 hj
    have hjl := (List.getElem?_eq_some_iff.1 hx).1
    have := hc j hjl
    rw [nth_eq hjl, (List.getElem?_eq_some_iff.1 hx).2] at this
    rw [Addr.add_lit]
    exact this) (by intro u hu; obtain ⟨x, _, rfl⟩ := List.mem_map.1 hu; rfl)
  have hold : (Builtin.firstCells i.size 0 (.slice (some ⟨b0, 0, none⟩) 0 0)).run Try.prog w.drew = .ok ([] : List Value).toArray w.drew := run_firstCells_some w.drew _ _ _ _ _ [] (by simp) (by simp)
  have hn := nextslicecap_le (need := 0 + xs.length) (old := 0) (by omega)
  have hr := run_append_grow_src w 25 25 ty 3 i (.int .i64 0) Try.underlying25 hi hz (some ⟨b0, 0, none⟩) 0 0 [] hold _ xs.length _ hs (by omega) (by omega) (by rw [hby]; omega)
  obtain ⟨Z, hZ⟩ : ∃ Z, Builtin.zeroCells (Value.int .i64 0).cells (grownCap w (0 + xs.length) 0 3 - (0 + xs.length)) = Z := ⟨_, rfl⟩
  rw [hZ] at hr
  have e : (([] ++ xs.map (Value.int .i64)).toArray ++ Z : Array Value) = (xs.map (Value.int .i64) ++ Z.toList).toArray := by
    apply Array.ext'
    simp
  rw [e, Nat.zero_add] at hr
  exact ⟨grownCap w xs.length 0 3, Z.toList, hr, grownCap_ge w xs.length 0 3⟩

/-- a copy, in a new block -/
def Cloned (xs : List Int) (w : World) (e : Ending) (w' : World) : Prop := ∃ b c rest, ∃ x : Later w, e = .returned (.slice (some ⟨b, 0, none⟩) xs.length c) ∧ w' = x.w ∧ Row x.w b xs rest 3 ∧ w.heap.size ≤ b ∧ xs.length ≤ c

set_option maxRecDepth 100000 in
set_option maxHeartbeats 1000000 in
theorem Clone_calls (v : Value) (xs : List Int) (w : World) (hx : Ints w v xs) (h1 : 1 ≤ xs.length) (hbig : xs.length ≤ 1000000) :
    Calls Try.prog 73 #[v] w (Cloned xs w) := by
  obtain ⟨b, off, cap, rfl, hcp, hlt, hc⟩ := hx.at (k := 0) (by omega)
  have heq : ∀ w, (binOp .eql 25 (.slice (some ⟨b, off, none⟩) xs.length cap) (.slice none 0 0)).run Try.prog w = .ok (.bool false) w := fun w => Lib.run_eql_slice_nil w _ _ _ _ _ _ _ Try.underlying25
  go_enter Try.func73, Try.ntmps73
  have hxA : Ints (w.alloc (.cells #[] 3)) _ xs := hx.later (Later.new w (.cells #[] 3))
  obtain ⟨c', rest, hrun, hc'⟩ := run_append_all (w.alloc (.cells #[] 3)) w.heap.size _ xs hxA h1 hbig 25
  have hrow := World.alloc_heap_new (w.alloc (.cells #[] 3)).drew (.cells ((xs.map (Value.int .i64)) ++ rest).toArray 3)
  obtain ⟨y, hy⟩ : ∃ y : Later (w.alloc (.cells #[] 3)), (w.alloc (.cells #[] 3)).drew.alloc (.cells ((xs.map (Value.int .i64)) ++ rest).toArray 3) = y.w := ⟨(Later.draw _).step (Later.new _ _), rfl⟩
  rw [hy] at hrun hrow
  have hsz : (w.alloc (.cells #[] 3)).drew.heap.size = w.heap.size + 1 := by
    show (w.alloc (.cells #[] 3)).heap.size = _
    simp
  rw [hsz] at hrow
  go_wp2_with (at_builtin; refine Lib.wpList_append_run_sl _ rfl _ _ 25 rfl _ _ rfl rfl hrun ?_)
  go_ret
  exact ⟨_, c', rest, (Later.new _ _).step y, rfl, rfl, hrow, by simp, hc'⟩

/-- which of two a nation is left with -/
def bestB (M : PM) (n x y : Int) : Int := if rthM M n y x then y else x
def bestW (M : PM) (n x y : Int) : Int := if rthM M n x y then y else x

set_option maxRecDepth 100000 in
set_option maxHeartbeats 1000000 in
theorem Better1_calls (c : Value) (ns ss : List (List Int)) (M : PM) (n x y : Int) (b1 b2 : Nat) (w : World) (hC : Court w c ns ss M) (h1 : w.cell? ⟨b1, 0, none⟩ = some (.func (.func 74) #[c] #[])) (h2 : w.cell? ⟨b2, 0, none⟩ = some (.int .i64 n)) :
    Calls Try.prog 76 #[.int .i64 x, .int .i64 y, .pointer (some ⟨b1, 0, none⟩), .pointer (some ⟨b2, 0, none⟩)] w (Gives (.bool (rthM M n x y)) w) := by
  go_enter Try.func76, Try.ntmps76
  go_wp2_with (go_at_call 74; refine (rather_calls c ns ss M n x y _ hC).mono ?_; rintro e w' ⟨rfl, z, rfl⟩)
  go_ret
  exact ⟨rfl, z, rfl⟩
set_option maxRecDepth 100000 in
set_option maxHeartbeats 1000000 in
theorem Worse1_calls (c : Value) (ns ss : List (List Int)) (M : PM) (n x y : Int) (b1 b2 : Nat) (w : World) (hC : Court w c ns ss M) (h1 : w.cell? ⟨b1, 0, none⟩ = some c) (h2 : w.cell? ⟨b2, 0, none⟩ = some (.int .i64 n)) :
    Calls Try.prog 78 #[.int .i64 x, .int .i64 y, .pointer (some ⟨b1, 0, none⟩), .pointer (some ⟨b2, 0, none⟩)] w (Gives (.bool (rthM M n y x)) w) := by
  go_enter Try.func78, Try.ntmps78
  go_wp2_with (go_at_call 74; refine (rather_calls c ns ss M n y x _ hC).mono ?_; rintro e w' ⟨rfl, z, rfl⟩)
  go_ret
  exact ⟨rfl, z, rfl⟩
set_option maxRecDepth 100000 in
set_option maxHeartbeats 1000000 in
theorem best_better (c : Value) (ns ss : List (List Int)) (M : PM) (n x y : Int) (b1 b2 : Nat) (w : World) (hC : Court w c ns ss M) (h1 : w.cell? ⟨b1, 0, none⟩ = some (.func (.func 74) #[c] #[])) (h2 : w.cell? ⟨b2, 0, none⟩ = some (.int .i64 n)) :
    Calls Try.prog 75 #[.int .i64 x, .int .i64 y, .func (.func 76) #[] #[.pointer (some ⟨b1, 0, none⟩), .pointer (some ⟨b2, 0, none⟩)]] w (Gives (.int .i64 (bestB M n x y)) w) := by
  cases hr : rthM M n y x
  all_goals
    have hv := Lib.hid (show bestB M n x y = _ by rw [bestB, hr])
    have har := Better1_calls c ns ss M n y x b1 b2 w hC h1 h2
    rw [hr] at har
    go_enter Try.func75, Try.ntmps75
    go_wp2_with (go_at_call 76; refine har.mono ?_; rintro e w' ⟨rfl, z, rfl⟩)
    go_ret
    exact ⟨ret_int (by rw [hv.out]; simp), z, rfl⟩
set_option maxRecDepth 100000 in
set_option maxHeartbeats 1000000 in
theorem best_worse (c : Value) (ns ss : List (List Int)) (M : PM) (n x y : Int) (b1 b2 : Nat) (w : World) (hC : Court w c ns ss M) (h1 : w.cell? ⟨b1, 0, none⟩ = some c) (h2 : w.cell? ⟨b2, 0, none⟩ = some (.int .i64 n)) :
    Calls Try.prog 75 #[.int .i64 x, .int .i64 y, .func (.func 78) #[] #[.pointer (some ⟨b1, 0, none⟩), .pointer (some ⟨b2, 0, none⟩)]] w (Gives (.int .i64 (bestW M n x y)) w) := by
  cases hr : rthM M n x y
  all_goals
    have hv := Lib.hid (show bestW M n x y = _ by rw [bestW, hr])
    have har := Worse1_calls c ns ss M n y x b1 b2 w hC h1 h2
    rw [hr] at har
    go_enter Try.func75, Try.ntmps75
    go_wp2_with (go_at_call 78; refine har.mono ?_; rintro e w' ⟨rfl, z, rfl⟩)
    go_ret
    exact ⟨ret_int (by rw [hv.out]; simp), z, rfl⟩

/-- the list m, whose first k numbers are those of r -/
def part (r m : List Int) (k : Nat) : List Int := r.take k ++ m.drop k
theorem part_zero (r m : List Int) : part r m 0 = m := by simp [part]
theorem part_len (r m : List Int) (k : Nat) (h : r.length = m.length) (hk : k ≤ m.length) : (part r m k).length = m.length := by simp [part]; omega
theorem part_end (r m : List Int) (k : Nat) (h : r.length = m.length) (hk : k = m.length) : part r m k = r := by subst hk; rw [part, List.drop_length, List.append_nil, ← h, List.take_length]
theorem part_set (r m : List Int) (k : Nat) (h : r.length = m.length) (hk : k < m.length) : (part r m k).set k (nth r k) = part r m (k + 1) := by
  have e0 := nth_eq (show k < r.length by omega)
  generalize nth r k = v at e0
  subst e0
  refine List.ext_getElem (by simp [part]; omega) fun i h1 h2 => ?_
  rw [List.getElem_set]
  simp only [part, List.getElem_append, List.length_take, List.getElem_take, List.getElem_drop]
  by_cases e : k = i
  · subst e
    rw [if_pos rfl, dif_pos (by omega)]
  · rw [if_neg e]
    by_cases e2 : i < k
    · rw [dif_pos (by omega), dif_pos (by omega)]
    · rw [dif_neg (by omega), dif_neg (by omega)]
      congr 1
      omega

theorem grownBy_setCell_at (W : World) (b k : Nat) (v : Value) : W.grownBy (W.setCell ⟨b, k, none⟩ v) (some b) :=
  ⟨rfl, rfl, rfl, by simp, fun j _ hj => Below.heap_setCell _ _ _ j (fun e => hj (by rw [e]))⟩

/-- What Better and Worse say. -/
def BetterR (ns ss : List (List Int)) (m l : List Int) : List Int := if vsett ns ss m l = 0 then (List.range m.length).map (fun (i : Nat) => bestB (tabOf ns ss) i (nth m i) (nth l i)) else []
def WorseR (ns ss : List (List Int)) (m l : List Int) : List Int := if vsett ns ss m l = 0 then (List.range m.length).map (fun (i : Nat) => bestW (tabOf ns ss) i (nth m i) (nth l i)) else []
theorem vsett_parts {ns ss : List (List Int)} {m l : List Int} (h : vsett ns ss m l = 0) : vmatch ns ss m = 0 ∧ vmatch ns ss l = 0 ∧ ∀ p ∈ prsTo (tabOf ns ss) ss.length ns.length, unsM (tabOf ns ss) m p.1 p.2 = false ∧ unsM (tabOf ns ss) l p.1 p.2 = false := by
  unfold vsett at h
  split at h
  · rename_i h1; exact absurd h h1
  rename_i h1
  split at h
  · rename_i h2; exact absurd h h2
  rename_i h2
  split at h
  · cases h
  rename_i h3
  rw [Bool.not_eq_true, List.any_eq_false] at h3
  refine ⟨by simpa using h1, by simpa using h2, fun p hp => ?_⟩
  have := h3 p hp
  simpa using this
theorem vmatch_book {ns ss : List (List Int)} {m : List Int} (h : vmatch ns ss m = 0) : vbook ns ss = 0 := by
  unfold vmatch at h
  split at h
  · rename_i h1; exact absurd h h1
  · rename_i h1; simpa using h1

set_option maxRecDepth 100000 in
set_option maxHeartbeats 2000000 in
theorem Better_calls (nv sv mv lv : Value) (ns ss : List (List Int)) (m l : List Int) (w : World) (hn : Rows2 w nv ns) (hs : Rows2 w sv ss) (hm : Ints w mv m) (hl : Ints w lv l) :
    Calls Try.prog 35 #[.agg #[nv, sv], mv, lv] w (GivesL (BetterR ns ss m l) (vsett ns ss m l) w) := by
  obtain ⟨an, cn, rfl⟩ := hn.form
  obtain ⟨aS, cS, rfl⟩ := hs.form
  have hn0 : Rows2 (w.alloc (.cells #[.slice an ns.length cn, .slice aS ss.length cS] 24)) _ _ := hn.later (Later.new _ _)
  have hs0 : Rows2 (w.alloc (.cells #[.slice an ns.length cn, .slice aS ss.length cS] 24)) _ _ := hs.later (Later.new _ _)
  have hm0 : Ints (w.alloc (.cells #[.slice an ns.length cn, .slice aS ss.length cS] 24)) _ _ := hm.later (Later.new _ _)
  have hl0 : Ints (w.alloc (.cells #[.slice an ns.length cn, .slice aS ss.length cS] 24)) _ _ := hl.later (Later.new _ _)
  go_enter Try.func35, Try.ntmps35
  go_wp2_with fail
  refine (settled_calls _ _ _ _ ns ss m l _ hn0 hs0 hm0 hl0).mono ?_
  rintro e w' ⟨c, x, rfl, rfl, hC⟩
  by_cases h0 : vsett ns ss m l = 0
  rotate_left
  · have hb : (vsett ns ss m l == 0) = false := by simpa using h0
    have hv := Lib.hid (show BetterR ns ss m l = [] by rw [BetterR, if_neg h0])
    have hbb : (vsett ns ss m l != 0) = true := by simpa using h0
    go_wp2
    go_ret2
    exact ⟨_, (Later.new _ _).step x, ret_two rfl, rfl, by rw [hv.out]; exact Ints.nil none 0⟩
  · have hv := Lib.hid (show BetterR ns ss m l = (List.range m.length).map (fun (i : Nat) => bestB (tabOf ns ss) i (nth m i) (nth l i)) by rw [BetterR, if_pos h0])
    obtain ⟨hv1, hv2, _⟩ := vsett_parts h0
    have hlen := vbook_len (vmatch_book hv1)
    have hml := vmatch_len hv1
    have hll := vmatch_len hv2
    have hC1 := (hC h0).court (hn0.later x) (hs0.later x)
    have hm1 := hm0.later x
    have hl1 := hl0.later x
    have h0' := Lib.hid h0
    rw [h0]
    have hcl := Clone_calls mv m x.w hm1 (by omega) (by omega)
    clear h0 hC hv1 hv2
    go_wp2_with (go_at_call 73; refine hcl.mono ?_; rintro e w' ⟨bo, co, rest, y, rfl, rfl, hO, hbo, hco⟩)
    obtain ⟨r, hr⟩ : ∃ r, (List.range m.length).map (fun (i : Nat) => bestB (tabOf ns ss) i (nth m i) (nth l i)) = r := ⟨_, rfl⟩
    have hrl : r.length = m.length := by rw [← hr]; simp
    have hrn : ∀ k, k < m.length → nth r k = bestB (tabOf ns ss) k (nth m k) (nth l k) := fun k hk => by rw [nth_eq (by omega)]; simp [← hr]
    rw [hr] at hv
    have hF0 : Boxed (y.w.alloc (.cells #[.func (.func 74) #[.pointer c] #[]] 89)) y.w.heap.size 89 (.func (.func 74) #[.pointer c] #[]) := Boxed.new _ _ _
    obtain ⟨W1, hW1⟩ : ∃ W1, y.w.alloc (.cells #[.func (.func 74) #[.pointer c] #[]] 89) = W1 := ⟨_, rfl⟩
    have hO1 : Row W1 bo m rest 3 := by rw [← hW1]; exact hO.later (Later.new _ _)
    have hB1 : Below x.w.heap.size x.w W1 := by rw [← hW1]; exact y.le.alloc y.size _
    have hs1 : W1.heap.size = y.w.heap.size + 1 := by rw [← hW1]; simp
    have hby := hO.lt
    have hys := y.size
    obtain ⟨bF, hbF⟩ : ∃ bF, bF = y.w.heap.size := ⟨_, rfl⟩
    rw [hW1] at hF0 ⊢
    rw [← hbF] at hF0 hs1 hby hys ⊢
    have hF := hF0
    have hF1 : bF + 1 ≤ W1.heap.size := by omega
    clear hF0 hbF hW1 hO y
    have hl2 := Lib.hid hll
    have hm2 := Lib.hid hml
    clear hr hll hml hcl
    go_loopw [29] (fun i wr => ∃ k : Nat, k ≤ ns.length ∧ i = .int .i64 k ∧ Below x.w.heap.size x.w wr ∧ bF + 1 ≤ wr.heap.size ∧ Boxed wr bF 89 (.func (.func 74) #[.pointer c] #[]) ∧ Row wr bo (part r m k) rest 3) (fun i _ => ns.length - (intOf i).toNat)
    case atStart => exact ⟨0, Nat.zero_le _, rfl, hB1, hF1, hF, by rw [part_zero]; exact hO1⟩
    case round =>
      clear hB1 hF1 hF hO1
      obtain ⟨k, hk, rfl, hB, hFs, hF, hO⟩ := hrel
      by_cases hlt : k < ns.length
      · obtain ⟨bm, om, cm, rfl, hcpm, hbm, hcm⟩ := hm1.at (k := k) (by have := hm2.out; omega)
        obtain ⟨bl, ol, cl, rfl, hcpl, hbl, hcl⟩ := hl1.at (k := k) (by have := hl2.out; omega)
        have gm := (hB.cell (p := ⟨bm, om + k, none⟩) hbm).trans (hcm k (by have := hm2.out; omega))
        have gl := (hB.cell (p := ⟨bl, ol + k, none⟩) hbl).trans (hcl k (by have := hl2.out; omega))
        have hm3 := hm2.out
        have hl3 := hl2.out
        have hsB := hB.size
        have sm : bm < wr.heap.size := by omega
        have sl : bl < wr.heap.size := by omega
        have hcond : k < m.length := by omega
        have hcond2 : k < l.length := by omega
        have hpl : (part r m k).length = m.length := part_len r m k hrl (by omega)
        clear hcm hcl hm3 hl3
        go_wp2
        refine Mix.region_mixL (Mix.kinds [] [11] [13]) (by kernel_rfl) (by kernel_rfl) ?_
        repeat ((with_reducible refine Mix.atCons ?_); first | refine Mix.skipU (by rfl) rfl (by rfl) ?_ | (refine Mix.val rfl rfl (by rfl) (fun K hK => ?_); go_big_quiet_op; refine hK _ ?_; clear hK K))
        refine Mix.loud rfl (by rfl) (fun x1 K hK => ?_)
        go_wp2_with fail
        have hBx : Below x.w.heap.size x.w x1.w := (hB.alloc hB.size _).trans (x1.le.mono (by simp; omega))
        have hC2 : Court x1.w (.pointer c) ns ss (tabOf ns ss) := hC1.later ⟨x1.w, hBx⟩
        have hi : x1.w.cell? ⟨wr.heap.size, 0, none⟩ = some (.int .i64 (k : Int)) := (x1.cell (o := 0) (by simp)).trans (Boxed.new wr 3 (.int .i64 (k : Int))).cell
        have hf : x1.w.cell? ⟨bF, 0, none⟩ = some (.func (.func 74) #[.pointer c] #[]) := (x1.cell (o := 0) (by simp; omega)).trans (hF.alloc _).cell
        refine (best_better _ ns ss _ _ _ _ _ _ _ hC2 hf hi).mono ?_
        rintro e w' ⟨rfl, x2, rfl⟩
        refine hK _ x2 ?_
        clear hK K hf hi hC2
        repeat ((with_reducible refine Mix.atCons ?_); first | refine Mix.skipU (by rfl) rfl (by rfl) ?_ | (refine Mix.val rfl rfl (by rfl) (fun K hK => ?_); go_big_quiet_op; refine hK _ ?_; clear hK K))
        refine Mix.last rfl (by rfl) (fun x3 K hK => ?_)
        have hO3 : Row x3.w bo (part r m k) rest 3 := (((hO.later (Later.new _ _)).later x1).later x2).later x3
        have hF3 : Boxed x3.w bF _ _ := (((hF.later (Later.new _ _)).later x1).later x2).later x3
        have hcO := hO3.cell (k := k) (by omega)
        have hfO := hO3.frozen k
        have hset := hO3.set k (by omega) (bestB (tabOf ns ss) k (nth m k) (nth l k))
        rw [← hrn k hcond, part_set r m k hrl hcond, hrn k hcond] at hset
        have hB3 : Below x.w.heap.size x.w x3.w := hBx.trans ((x2.step x3).le.mono hBx.size)
        have hs3 : bF + 1 ≤ x3.w.heap.size := Nat.le_trans (Nat.le_trans hFs (by simp [go_sem] : wr.heap.size ≤ (wr.alloc (.cells #[.int .i64 (k : Int)] 3)).heap.size)) ((x1.step x2).step x3).size
        go_wp2_with fail
        refine Mix.done (fun x4 => ?_)
        go_wp2
        go_roundw
        case rel => exact ⟨k + 1, by omega, by go_num, (hB3.setCell (p := ⟨bo, k, none⟩) hbo _).trans (x4.le.mono (by simp; exact hB3.size)), Nat.le_trans hs3 (Nat.le_trans (by simp) x4.size), (hF3.kept (grownBy_setCell_at x3.w bo k _) (by simp; omega)).later x4, hset.later x4⟩
        case measure => simp [intOf]; omega
      · have hm3 := hm2.out
        rw [part_end r m k hrl (by omega)] at hO
        have hfin := hO.ints (hm2.out.symm.trans hrl.symm) (by omega) (cap := co) (by omega)
        go_wp2
        go_ret2
        exact ⟨_, ⟨_, (((Later.new _ _).step x).le.trans (hB.mono (by have := ((Later.new w (.cells #[.slice an ns.length cn, .slice aS ss.length cS] 24)).step x).size; exact this)))⟩, ret_two h0'.out.symm, rfl, by rw [hv.out]; exact hfin⟩
end Go.Proofs.Ytieaibebnkdmhaa
