import Derived.Test.YtdhdpbnlhnodjaaKPrgF
import Derived.RangeFuncNested
import Derived.RangeFuncBound
import Derived.RangeFuncCalls
import Derived.RangeFuncLeaves
import Derived.Shelf.Abstract
import Derived.Shelf.RegionOpen
import Derived.OwnWalkIn
import Derived.TacticsInMore
import Derived.LoopNIn
import Derived.LoopIn
import Derived.Sort.BigQuietIn
import Derived.RangeFuncOne
import Derived.Test.YtdhdpbnlhnodjaaKOwn
/-  The program: steps, the iterator over the places to which steps lead. -/
namespace Go.Proofs.Ytdhdpbnlhnodjaa
open Go.RowKit Go.Shelf
attribute [local go_sem] Oper.semAt_some

/-- what a round keeps: all that lay below n0, and two cells -/
def KpS (n0 c1 c2 : Nat) (W W' : World) : Prop := Below n0 W W' ∧ W'.cell? ⟨c1, 0, none⟩ = W.cell? ⟨c1, 0, none⟩ ∧ W'.cell? ⟨c2, 0, none⟩ = W.cell? ⟨c2, 0, none⟩
theorem KpS.t {n0 c1 c2 : Nat} {X Y Z : World} (h : KpS n0 c1 c2 X Y) (k : KpS n0 c1 c2 Y Z) : KpS n0 c1 c2 X Z := ⟨h.1.trans k.1, k.2.1.trans h.2.1, k.2.2.trans h.2.2⟩
theorem KpS.b {n0 c1 c2 n : Nat} (h0 : n0 ≤ n) (h1 : c1 < n) (h2 : c2 < n) (W : World) (l : Nat) (o o' : Obj) (hl : n ≤ l) (hk' : W.heap[l]? = some o) (_ : o.isCells = false) (_ : o.isWalk = false) : KpS n0 c1 c2 W (W.putObj l o') := by
  have hk : ∀ c, c < n → (W.putObj l o').heap[c]? = W.heap[c]? := fun c hc => World.putObj_heap_other (by omega)
  refine ⟨(Below.refl n0 W).grown (grownBy_putObj' W l o') (by have := (Array.getElem?_eq_some_iff.1 hk').1; omega) (fun k e => by cases e; omega), World.cell?_of_block (hk _ h1), World.cell?_of_block (hk _ h2)⟩
theorem KpS.of {n0 c1 c2 : Nat} {W : World} (x : Later W) (h0 : n0 ≤ W.heap.size) (h1 : c1 < W.heap.size) (h2 : c2 < W.heap.size) : KpS n0 c1 c2 W x.w := ⟨x.le.mono h0, x.cell h1, x.cell h2⟩
/-- where steps lead from a place: over the names' places, in order -/
def stP (L : Sat.Lay) (p n j : Nat) : List Nat := ((List.range j).map (2 * n + ·)).filter fun q => Sat.lead L p q
theorem stP_snoc (L : Sat.Lay) (p n j : Nat) : stP L p n (j + 1) = stP L p n j ++ if Sat.lead L p (2 * n + j) then [2 * n + j] else [] := by
  rw [stP, List.range_succ, List.map_append, List.filter_append]
  congr 1
  simp only [List.map_cons, List.map_nil, List.filter_cons, List.filter_nil]
theorem stP_len (L : Sat.Lay) (p n j : Nat) : (stP L p n j).length ≤ j := by
  have := List.length_filter_le (fun q => Sat.lead L p q) ((List.range j).map (2 * n + ·))
  rw [List.length_map, List.length_range] at this
  exact this
def stepsL (L : Sat.Lay) (p : Nat) : List Nat → List Nat
  | [] => []
  | n :: ns => stP L p n 2 ++ stepsL L p ns
theorem stepsL_app (L : Sat.Lay) (p : Nat) : ∀ ns ms, stepsL L p (ns ++ ms) = stepsL L p ns ++ stepsL L p ms
  | [], ms => rfl
  | n :: ns, ms => by rw [List.cons_append, stepsL, stepsL, stepsL_app L p ns ms, List.append_assoc]
theorem stepsL_take (L : Sat.Lay) (p : Nat) (N : List Nat) (k : Nat) (hk : k < N.length) : stepsL L p (N.take (k + 1)) = stepsL L p (N.take k) ++ stP L p N[k] 2 := by
  rw [List.take_succ_eq_append_getElem hk, stepsL_app, stepsL, stepsL, List.append_nil]
theorem stepsL_len (L : Sat.Lay) (p : Nat) : ∀ ns, (stepsL L p ns).length ≤ 2 * ns.length
  | [] => Nat.le_refl _
  | n :: ns => by
    rw [stepsL, List.length_append, List.length_cons]
    have := stP_len L p n 2
    have := stepsL_len L p ns
    omega
theorem stepsL_mem (L : Sat.Lay) (p : Nat) : ∀ (ns : List Nat) (q : Nat), q ∈ stepsL L p ns ↔ Sat.lead L p q = true ∧ q / 2 ∈ ns
  | [], q => by simp [stepsL]
  | n :: ns, q => by
    rw [stepsL, List.mem_append, stepsL_mem L p ns, stP, List.mem_filter, List.mem_cons]
    have : q ∈ (List.range 2).map (2 * n + ·) ↔ q / 2 = n := by
      simp only [List.range_succ, List.range_zero, List.nil_append, List.cons_append, List.map_cons, List.map_nil, List.mem_cons, List.not_mem_nil, or_false]
      omega
    rw [this]
    constructor
    · rintro (⟨h1, h2⟩ | ⟨h1, h2⟩)
      · exact ⟨h2, .inl h1⟩
      · exact ⟨h1, .inr h2⟩
    · rintro ⟨h1, h2 | h2⟩
      · exact .inl ⟨h2, h1⟩
      · exact .inr ⟨h1, h2⟩
/-- a place to which a step leads -/
abbrev Plc (L : Sat.Lay) (N : List Nat) (p : Nat) : Type := { q : Nat // Sat.lead L p q = true ∧ q / 2 ∈ N }
set_option maxRecDepth 100000 in
set_option maxHeartbeats 2000000 in
theorem steps1_in (m l c1 c2 b n lo p : Nat) (L : Sat.Lay) (N : List Nat) (hN10 : ∀ k ∈ N, k < 10) (hNl : N.length ≤ 10) (hp : p / 2 ∈ N) (Wd : World) (hD : Dk L N n lo Wd b)
    (J Jx : List (Plc L N p) → World → Prop) (W : World) (hW : Below Wd.heap.size Wd W) (hJ : AbidesFrom W.heap.size J)
    (hY : ∀ pre x W, J pre W → pre.length < 20 → YieldAt Fence.wide (m - 1) Try.prog l #[.int .i64 (x.1 : Int)] W fun e W' =>
      (e = .returned (.bool true) ∧ J (pre ++ [x]) W' ∧ KpS Wd.heap.size c1 c2 W W') ∨ (e = .returned (.bool false) ∧ Jx (pre ++ [x]) W'))
    (h1 : W.cell? ⟨c1, 0, none⟩ = some (.pointer (some ⟨b, 0, none⟩))) (h2 : W.cell? ⟨c2, 0, none⟩ = some (.int .i64 p)) (h0 : J [] W) :
    CallsIn Fence.wide m Try.prog 90 #[.func (.yield l) #[] #[], .pointer (some ⟨c1, 0, none⟩), .pointer (some ⟨c2, 0, none⟩)] W fun e W' => (∃ v, e = .returned v) ∧
      ((∃ ys, ys.map (·.1) = stepsL L p N ∧ J ys W') ∨ (∃ pre, True ∧ Jx pre W')) := by
  have l1 : c1 < W.heap.size := World.block_lt_of_cell? W _ h1
  have l2 : c2 < W.heap.size := World.block_lt_of_cell? W _ h2
  have hp10 := hN10 _ hp
  have HDk := Lib.hid hD
  obtain ⟨mm, mv, cv, nv, M, cov, hB, hNs, -, -⟩ := hD
  obtain ⟨xW, hxW⟩ : ∃ x : Later Wd, x.w = W := ⟨⟨W, hW⟩, rfl⟩
  have b24 := (hB.later xW).c24
  have bl := (hB.later xW).lt
  rw [hxW] at b24 bl
  obtain ⟨an, ln, cn, rfl⟩ : ∃ a n c, nv = .slice a n c := by obtain ⟨a, c, e⟩ := hNs.form; exact ⟨a, _, c, e⟩
  have HLN := Lib.hid (show ln = N.length by obtain ⟨a, c, e⟩ := hNs.form; cases e; simp)
  have hln : ln ≤ 10 := by rw [HLN.out]; exact hNl
  have hsz0 : Wd.heap.size ≤ W.heap.size := hW.size
  clear hB hxW xW
  refine callsIn_of_wp Try.func90 rfl trivial ?_ rfl
  simp only [Try.ntmps90, List.size_toArray, List.length_cons, List.length_nil, Nat.reduceAdd, Nat.reduceSub, Array.replicate_succ, Array.replicate_zero, List.push_toArray, List.append_toArray, List.nil_append, List.cons_append]
  gi_wp2
  clear b24 bl
  gi_loopw [12] (fun i wr => ∃ (k : Nat) (pre : List (Plc L N p)), k ≤ ln ∧ i = .int .i64 k ∧ Hid (pre.map (·.1) = stepsL L p (N.take k)) ∧ J pre wr ∧ KpS Wd.heap.size c1 c2 W wr) (fun i _ => ln - (intOf i).toNat)
  case atStart => exact ⟨0, [], Nat.zero_le _, rfl, rfl, h0, KpS.of (Later.self W) hsz0 l1 l2⟩
  case round =>
    clear h0
    obtain ⟨k, pre, hk, rfl, hpre, hJr, hK⟩ := hrel
    by_cases hlt : k < ln
    · obtain ⟨xr, hxr⟩ : ∃ x : Later Wd, x.w = wr := ⟨⟨wr, hW.trans hK.1⟩, rfl⟩
      have hkN : k < N.length := by rw [← HLN.out]; exact hlt
      obtain ⟨bm, om, km, e, hkm, hbm, hgm⟩ := hNs.at (k := k) (by rw [List.length_map]; exact hkN)
      injection e with e1 e2 e3
      subst e1
      have m1 := (xr.cell hbm).trans (hgm k (by rw [List.length_map]; exact hkN))
      have ml := Nat.lt_of_lt_of_le hbm xr.size
      rw [hxr] at m1 ml
      obtain ⟨q, hq⟩ : ∃ q, N[k] = q := ⟨_, rfl⟩
      have hqN : q ∈ N := by rw [← hq]; exact List.getElem_mem hkN
      have hq10 := hN10 q hqN
      rw [show nth (N.map fun (k : Nat) => (k : Int)) k = (q : Int) by rw [nth_eq (by rw [List.length_map]; exact hkN)]; simp [hq]] at m1
      have HST := Lib.hid (stepsL_take L p N k hkN)
      rw [hq] at HST
      clear hgm hkm e2 e3 hq hxr xr
      gi_wp2
      clear m1 ml
      gi_loopw [6] (fun i wr => ∃ (j : Nat) (pre : List (Plc L N p)), j ≤ 2 ∧ i = .int .i64 (2 * (q : Int) + (j : Int)) ∧ Hid (pre.map (·.1) = stepsL L p (N.take k) ++ stP L p q j) ∧ J pre wr ∧ KpS Wd.heap.size c1 c2 W wr) (fun i _ => (2 * (q : Int) + 2 - intOf i).toNat)
      case atStart => exact ⟨0, pre, Nat.zero_le _, by go_num, by rw [hpre.out]; unfold Hid; simp [stP], hJr, hK⟩
      case round =>
        clear hJr hK hpre pre
        obtain ⟨j, pre, hj, rfl, hpre, hJr, hK⟩ := hrel
        by_cases hj2 : j < 2
        · obtain ⟨P, hP⟩ : ∃ P : Nat, 2 * q + j = P := ⟨_, rfl⟩
          have eP : 2 * (q : Int) + (j : Int) = (P : Int) := by omega
          have HEP := Lib.hid eP
          have hPq : P / 2 = q := by omega
          have g1 := hK.2.1.trans h1
          have g2 := hK.2.2.trans h2
          have lr := hK.1.size
          have lr1 := Nat.lt_of_lt_of_le l1 lr
          have lr2 := Nat.lt_of_lt_of_le l2 lr
          have hsn := stP_snoc L p q j
          rw [hP] at hsn
          have hlen : pre.length < 20 := by
            have h1 := congrArg List.length hpre.out
            rw [List.length_map, List.length_append] at h1
            have h2 := stepsL_len L p (N.take k)
            have h3 := stP_len L p q j
            rw [List.length_take] at h2
            omega
          have hcall := leads_calls L N n lo wr b (HDk.out.later ⟨wr, hW.trans hK.1⟩) p P hp (by rw [hPq]; exact hqN) (by omega) (by omega)
          obtain ⟨r, hr⟩ : ∃ r, Sat.lead L p P = r := ⟨_, rfl⟩
          rw [hr] at hcall hsn
          have HR := Lib.hid hr
          have HSN := Lib.hid hsn
          clear hP hr hsn
          cases r
          · have HS2 := Lib.hid (show stP L p q (j + 1) = stP L p q j by rw [HSN.out]; simp)
            gi_wp2_with fail
            refine ⟨trivial, (fun h => absurd h (by decide)), (callsIn_wide.2 hcall).mono ?_⟩
            rintro e w' ⟨rfl, y, rfl⟩
            have hJy := hJ _ _ _ _ hJr y.grown (fun _ h => nomatch h)
            have hKy := hK.t (KpS.of y (Nat.le_trans hsz0 lr) lr1 lr2)
            clear hJr hK hcall g1 g2
            gi_wp2
            refine ⟨(fun f hf => nomatch hf), ?_⟩
            gi_wp2
            go_roundw
            case rel => exact ⟨j + 1, pre, by omega, by go_num, by unfold Hid; rw [hpre.out, HS2.out], hJy, hKy⟩
            case measure => simp [intOf]; omega
          · have HS2 := Lib.hid (show stP L p q (j + 1) = stP L p q j ++ [P] by rw [HSN.out]; simp)
            gi_wp2_with fail
            refine ⟨trivial, (fun h => absurd h (by decide)), (callsIn_wide.2 hcall).mono ?_⟩
            rintro e w' ⟨rfl, y, rfl⟩
            have hJy := hJ _ _ _ _ hJr y.grown (fun _ h => nomatch h)
            have hKy := hK.t (KpS.of y (Nat.le_trans hsz0 lr) lr1 lr2)
            clear hJr hK hcall g1 g2
            obtain ⟨fn, tmps, assign, body, hy, hR⟩ := hY pre ⟨P, HR.out, by rw [hPq]; exact hqN⟩ y.w hJy hlen
            dsimp only at hy
            have HST2 := Lib.hid (show (pre ++ [(⟨P, HR.out, by rw [hPq]; exact hqN⟩ : Plc L N p)]).map (·.1) = stepsL L p (N.take k) ++ stP L p q (j + 1) by rw [List.map_append, hpre.out, HS2.out, List.append_assoc]; rfl)
            gi_wp2
            refine ⟨(fun h => absurd h (by decide)), hR.mono ?_⟩
            rintro e W3 (⟨rfl, hJ3, hk3⟩ | ⟨rfl, hJx3⟩)
            · gi_wp2
              go_roundw
              case rel => exact ⟨j + 1, _, by omega, by go_num, HST2, hJ3, hKy.t hk3⟩
              case measure => simp [intOf]; omega
            · gi_wp2
              refine bodyPost_ret (results_none rfl _ _ _) rfl ?_
              exact ⟨⟨_, rfl⟩, .inr ⟨_, trivial, hJx3⟩⟩
        · obtain rfl : j = 2 := by omega
          gi_wp2
          go_roundw
          case rel => exact ⟨k + 1, pre, by omega, by go_num, by unfold Hid; rw [hpre.out, HST.out], hJr, hK⟩
          case measure => simp [intOf]; omega
    · obtain rfl : ln = k := by omega
      gi_wp2
      go_end0
      exact ⟨⟨_, rfl⟩, .inl ⟨pre, by rw [hpre.out, HLN.out, List.take_length], hJr⟩⟩

set_option maxHeartbeats 1000000 in
/-- d.steps(from): the desk and the place are boxed. -/
theorem steps_calls (b : Nat) (p : Int) (W : World) :
    Calls Try.prog 89 #[.pointer (some ⟨b, 0, none⟩), .int .i64 p] W fun e W' => e = .returned (.func (.func 90) #[] #[.pointer (some ⟨W.heap.size, 0, none⟩), .pointer (some ⟨W.heap.size + 1, 0, none⟩)]) ∧ W' = (W.alloc (.cells #[.pointer (some ⟨b, 0, none⟩)] 65)).alloc (.cells #[.int .i64 p] 3) := by
  go_enter Try.func89, Try.ntmps89
  go_wp2
  go_ret
  exact ⟨rfl, rfl⟩
theorem steps_stops (m c1 c2 b n lo p : Nat) (L : Sat.Lay) (N : List Nat) (hN10 : ∀ k ∈ N, k < 10) (hNl : N.length ≤ 10) (hp : p / 2 ∈ N) (Wd : World) (hD : Dk L N n lo Wd b) (W0 : World) (hW0 : Below Wd.heap.size Wd W0)
    (h1 : W0.cell? ⟨c1, 0, none⟩ = some (.pointer (some ⟨b, 0, none⟩))) (h2 : W0.cell? ⟨c2, 0, none⟩ = some (.int .i64 p)) :
    SeqStopsK Fence.wide m Try.prog 90 #[.pointer (some ⟨c1, 0, none⟩), .pointer (some ⟨c2, 0, none⟩)] (fun x : Plc L N p => #[Value.int .i64 (x.1 : Int)]) (KpS Wd.heap.size c1 c2) (fun ys => ys.map (·.1) = stepsL L p N) (fun _ => True) 20 W0 := fun l J Jx W hW hJ _ hY h0 =>
  steps1_in m l c1 c2 b n lo p L N hN10 hNl hp Wd hD J Jx W (hW0.trans (hW.mono hW0.size)) hJ hY ((hW.cell (p := ⟨c1, 0, none⟩) (World.block_lt_of_cell? W0 _ h1)).trans h1) ((hW.cell (p := ⟨c2, 0, none⟩) (World.block_lt_of_cell? W0 _ h2)).trans h2) h0

end Go.Proofs.Ytdhdpbnlhnodjaa

/-  The program: reach. -/
namespace Go.Proofs.Ytdhdpbnlhnodjaa
open Go.RowKit Go.Shelf
attribute [local go_sem] Oper.semAt_some
open Sat (at0 Mk)

/-- the marks that ranges over a function leave -/
def mark (D : Nat) : Deferred := { target := .collected D, args := #[] }
theorem leaves_marks {F : Fence} {n : Nat} {P : Program} {fn : Func} {tmps : Array Value} {R : Ending → World → Prop} {u : FrameMode} (hu : u ≠ .run) (Φ : World → Prop) (lo : Nat)
    (hΦ : ∀ U D, lo ≤ D → U.heap[D]? = some (.deferred (some [])) → Φ U → Φ (U.putObj D (.deferred none))) (hfin : ∀ U, Φ U → LeavesInM F n P fn tmps R [] u U) :
    ∀ (Ds : List Nat) (U : World), Ds.Nodup → (∀ D ∈ Ds, lo ≤ D ∧ U.heap[D]? = some (.deferred (some []))) → Φ U → LeavesInM F n P fn tmps R (Ds.map mark) u U
  | [], U, _, _, h => hfin U h
  | D :: Ds, U, hnd, hd, h => by
    obtain ⟨h1, h2⟩ := List.nodup_cons.1 hnd
    refine ⟨hu, .inl ⟨D, _, rfl, run_takeDeferred (hd D (by simp)).2, ?_⟩⟩
    refine leaves_marks hu Φ lo hΦ hfin Ds _ h2 (fun E hE => ⟨(hd E (by simp [hE])).1, ?_⟩) (hΦ U D (hd D (by simp)).1 (hd D (by simp)).2 h)
    rw [World.putObj_heap_other (fun e => h1 (by rw [← e]; exact hE))]
    exact (hd E (by simp [hE])).2
/-- what stands while places are reached -/
structure RchW (W U : World) (Rb By : Nat) (Ds : List Nat) (X : List Int) : Prop where
  bel : Below W.heap.size W U
  res : Arr U Rb (List.replicate 20 0)
  arr : Arr U By X
  len : X.length = 20
  ds : ∀ D ∈ Ds, W.heap.size ≤ D ∧ U.heap[D]? = some (.deferred (some []))
  nd : Ds.Nodup
  ne : Rb ≠ By
  loR : W.heap.size ≤ Rb
  loB : W.heap.size ≤ By
section
variable {W U : World} {Rb By : Nat} {Ds : List Nat} {X : List Int}
theorem RchW.grown (h : RchW W U Rb By Ds X) {U' : World} {row : Option Nat} (hg : U.grownBy U' row) (hr : ∀ r, row = some r → W.heap.size ≤ r ∧ r ∉ Ds ∧ r ≠ Rb ∧ r ≠ By) : RchW W U' Rb By Ds X :=
  { h with bel := h.bel.grown hg h.bel.size (fun r e => (hr r e).1), res := h.res.kept hg (fun e => (hr Rb e.symm).2.2.1 rfl), arr := h.arr.kept hg (fun e => (hr By e.symm).2.2.2 rfl),
           ds := fun D hD => ⟨(h.ds D hD).1, (hg.block D (Array.getElem?_eq_some_iff.1 (h.ds D hD).2).1 (fun e => (hr D e.symm).2.1 hD)).trans (h.ds D hD).2⟩ }
theorem RchW.later (h : RchW W U Rb By Ds X) (x : Later U) : RchW W x.w Rb By Ds X := h.grown x.grown (fun _ e => nomatch e)
theorem RchW.notB (h : RchW W U Rb By Ds X) : By ∉ Ds := fun hm => by have h1 := (h.ds By hm).2; rw [show U.heap[By]? = _ from h.arr] at h1; cases h1
theorem RchW.set (h : RchW W U Rb By Ds X) (k : Nat) (v : Int) : RchW W (U.setCell ⟨By, k, none⟩ (.int .i64 v)) Rb By Ds (X.set k v) :=
  { h with bel := h.bel.setCell (p := ⟨By, k, none⟩) h.loB _, res := h.res.kept (grownBy_setCell_at U By k _) (fun e => by cases e; exact h.ne rfl), arr := h.arr.set k v, len := by rw [List.length_set, h.len],
           ds := fun D hD => ⟨(h.ds D hD).1, (heap_setCell_other _ _ _ _ (fun e => h.notB (by rw [← show D = By from e]; exact hD))).trans (h.ds D hD).2⟩ }
theorem RchW.cell (h : RchW W U Rb By Ds X) {k : Nat} (hk : k < 20) : U.cell? ⟨By, k, none⟩ = some (.int .i64 (nth X k)) := h.arr.cell (by rw [h.len]; exact hk)
theorem RchW.push (h : RchW W U Rb By Ds X) {D : Nat} (hD : U.heap[D]? = some (.deferred (some []))) (hW : W.heap.size ≤ D) (hn : D ∉ Ds) : RchW W U Rb By (D :: Ds) X :=
  { h with ds := fun E hE => by
             rcases List.mem_cons.1 hE with rfl | hE
             · exact ⟨hW, hD⟩
             · exact h.ds E hE
           nd := List.nodup_cons.2 ⟨hn, h.nd⟩ }
theorem RchW.dlt (h : RchW W U Rb By Ds X) {D : Nat} (hD : D ∈ Ds) : D < U.heap.size := (Array.getElem?_eq_some_iff.1 (h.ds D hD).2).1
end
/-- how many marks are not laid, by the cells -/
def isNz : Option Value → Bool
  | some (.int _ n) => n != 0
  | _ => false
def zer (By : Nat) (U : World) : Nat := 20 - ((List.range 20).filter fun q => isNz (U.cell? ⟨By, q, none⟩)).length
theorem zer_of {L : Sat.Lay} {N T : List Nat} {W U : World} {Rb By : Nat} {Ds : List Nat} {X : List Int} {ord : List Nat} (h : RchW W U Rb By Ds X) (hM : Mk L N T 20 X ord) : zer By U = 20 - ord.length := by
  rw [zer]
  congr 1
  refine List.Perm.length_eq ((List.perm_ext_iff_of_nodup (List.nodup_range.filter _) hM.nd).2 fun q => ?_)
  rw [List.mem_filter, List.mem_range]
  constructor
  · rintro ⟨hq, h1⟩
    rw [h.cell hq] at h1
    exact (hM.mem q hq).1 (by simpa [isNz, nth, at0] using h1)
  · intro hq
    have h1 := hM.lt q hq
    refine ⟨h1, ?_⟩
    rw [h.cell h1]
    have := (hM.mem q h1).2 hq
    simpa [isNz, nth, at0] using this
/-- all that is reached is marked -/
structure Rch (L : Sat.Lay) (N T : List Nat) (X : List Int) (ord : List Nat) : Prop where
  mk1 : Mk L N T 20 X ord
  beg : ∀ b ∈ T, b ∈ ord
  full : ∀ p ∈ ord, ∀ q, Sat.lead L p q = true → q / 2 ∈ N → q ∈ ord
theorem Rch.iff {L : Sat.Lay} {N T : List Nat} {X : List Int} {ord : List Nat} (h : Rch L N T X ord) {q : Nat} (hq : q < 20) : nth X q ≠ 0 ↔ Sat.Cl L N T q :=
  ⟨fun h1 => h.mk1.cl_mem ((h.mk1.mem q hq).1 h1), fun h1 => (h.mk1.mem q hq).2 (Mk.full h.beg h.full h1)⟩
/-- the first k places are begun with -/
structure Beg (L : Sat.Lay) (N T : List Nat) (k : Nat) (X : List Int) (ord : List Nat) : Prop where
  mk1 : Mk L N T 20 X ord
  own : ∀ q ∈ ord, at0 X q = q + 1
  all : ∀ p ∈ T.take k, p ∈ ord
theorem Beg.start (L : Sat.Lay) (N T : List Nat) : Beg L N T 0 (List.replicate 20 0) [] where
  mk1 := { len := by simp, mem := (Mk.start L N 20).mem, lt := fun q h => absurd h (by simp), nd := List.nodup_nil, par := fun i h => absurd h (Nat.not_lt_zero _) }
  own := fun q h => absurd h (by simp)
  all := fun p h => absurd h (by simp)
theorem at0_set_same {X : List Int} {p : Nat} {v : Int} (h : at0 X p = v) : X.set p v = X := by
  apply List.ext_getElem
  · simp
  · intro i h1 h2
    rw [List.getElem_set]
    split
    · rename_i e
      subst e
      rw [← h, at0]; simp [h2]
    · rfl
theorem Beg.next {L : Sat.Lay} {N T : List Nat} {k : Nat} {X : List Int} {ord : List Nat} (h : Beg L N T k X ord) (hk : k < T.length) {p : Nat} (hp : T[k] = p) (hlt : p < 20) : ∃ ord', Beg L N T (k + 1) (X.set p ((p : Int) + 1)) ord' := by
  have hmem : p ∈ T := by rw [← hp]; exact List.getElem_mem hk
  have hall : ∀ {o : List Nat}, (∀ q ∈ ord, q ∈ o) → p ∈ o → ∀ q ∈ T.take (k + 1), q ∈ o := fun h1 h2 q hq => by
    rw [List.take_succ_eq_append_getElem hk, hp] at hq
    rcases List.mem_append.1 hq with hq | hq
    · exact h1 q (h.all q hq)
    · have : q = p := by simpa using hq
      rw [this]; exact h2
  by_cases hi : p ∈ ord
  · rw [at0_set_same (h.own p hi)]
    exact ⟨ord, h.mk1, h.own, hall (fun q hq => hq) hi⟩
  · refine ⟨ord ++ [p], h.mk1.snoc hlt hi (by omega) T (fun b hb => hb) (.inl ⟨hmem, rfl⟩), fun q hq => ?_, hall (fun q hq => by simp [hq]) (by simp)⟩
    rw [Sat.at0_set _ _ _ _ (by rw [h.mk1.len]; exact hlt)]
    rcases List.mem_append.1 hq with hq | hq
    · rw [if_neg (fun e => hi (by rw [← e]; exact hq))]; exact h.own q hq
    · have : q = p := by simpa using hq
      rw [if_pos this, this]
/-- a round: of the places that were marked when it began, those below k are gone on from, and of those behind k some -/
structure Rnd (L : Sat.Lay) (N T : List Nat) (X0 : List Int) (ord0 : List Nat) (k : Nat) (pre : List Nat) (X : List Int) (ord : List Nat) : Prop where
  mk0 : Mk L N T 20 X0 ord0
  mk1 : Mk L N T 20 X ord
  beg : ∀ b ∈ T, b ∈ ord0
  ext : ∀ q ∈ ord0, q ∈ ord
  le : ord0.length ≤ ord.length
  same : ord.length = ord0.length → X = X0
  done : ∀ p ∈ ord0, p < k → ∀ q, Sat.lead L p q = true → q / 2 ∈ N → q ∈ ord
  pre : ∀ q ∈ pre, q ∈ ord
section
variable {L : Sat.Lay} {N T : List Nat} {X0 X : List Int} {ord0 ord : List Nat} {k : Nat} {pre : List Nat}
theorem Rnd.start (h : Mk L N T 20 X ord) (hb : ∀ b ∈ T, b ∈ ord) : Rnd L N T X ord 0 [] X ord :=
  ⟨h, h, hb, fun q hq => hq, Nat.le_refl _, fun _ => rfl, fun p _ hp => absurd hp (Nat.not_lt_zero _), fun q hq => absurd hq (by simp)⟩
theorem Rnd.skip (h : Rnd L N T X0 ord0 k [] X ord) (hk : k < 20) (h0 : nth X0 k = 0) : Rnd L N T X0 ord0 (k + 1) [] X ord :=
  { h with done := fun p hp hlt => by
             by_cases e : p = k
             · subst e; exact absurd ((h.mk0.mem p hk).2 hp) (by rw [show at0 X0 p = nth X0 p from rfl, h0]; simp)
             · exact h.done p hp (by omega) }
theorem Rnd.seen (h : Rnd L N T X0 ord0 k pre X ord) {q : Nat} (hq : q < 20) (h0 : nth X q ≠ 0) : Rnd L N T X0 ord0 k (pre ++ [q]) X ord :=
  { h with pre := fun r hr => by
             rcases List.mem_append.1 hr with hr | hr
             · exact h.pre r hr
             · have : r = q := by simpa using hr
               rw [this]; exact (h.mk1.mem q hq).1 h0 }
theorem Rnd.new (h : Rnd L N T X0 ord0 k pre X ord) {q : Nat} (hq : q < 20) (h0 : nth X q = 0) (hk : k ∈ ord0) (hl : Sat.lead L k q = true) (hN : q / 2 ∈ N) : Rnd L N T X0 ord0 k (pre ++ [q]) (X.set q ((k : Int) + 1)) (ord ++ [q]) where
  mk0 := h.mk0
  mk1 := h.mk1.snoc hq (fun hm => (h.mk1.mem q hq).2 hm h0) (by omega) T (fun b hb => hb) (.inr ⟨k, h.ext k hk, rfl, hl, hN⟩)
  beg := h.beg
  ext := fun r hr => List.mem_append_left _ (h.ext r hr)
  le := by rw [List.length_append]; have := h.le; omega
  same := fun e => by rw [List.length_append, List.length_singleton] at e; have := h.le; omega
  done := fun p hp hlt r h1 h2 => List.mem_append_left _ (h.done p hp hlt r h1 h2)
  pre := fun r hr => by
    rcases List.mem_append.1 hr with hr | hr
    · exact List.mem_append_left _ (h.pre r hr)
    · exact List.mem_append_right _ hr
theorem Rnd.all (h : Rnd L N T X0 ord0 k (stepsL L k N) X ord) : Rnd L N T X0 ord0 (k + 1) [] X ord :=
  { h with done := fun p hp hlt q h1 h2 => by
             by_cases e : p = k
             · subst e; exact h.pre q ((stepsL_mem L p N q).2 ⟨h1, h2⟩)
             · exact h.done p hp (by omega) q h1 h2
           pre := fun q hq => absurd hq (by simp) }
theorem Rnd.fin (h : Rnd L N T X0 ord0 20 [] X ord) (e : X0 = X) : Rch L N T X ord where
  mk1 := h.mk1
  beg := fun b hb => h.ext b (h.beg b hb)
  full := fun p hp q h1 h2 => by
    have hlt := h.mk1.lt p hp
    have hp0 : p ∈ ord0 := by
      have := (h.mk1.mem p hlt).2 hp
      rw [← e] at this
      exact (h.mk0.mem p hlt).1 this
    exact h.done p hp0 hlt q h1 h2
theorem Rnd.more (h : Rnd L N T X0 ord0 20 [] X ord) (e : ¬ X0 = X) : 20 - ord.length < 20 - ord0.length := by
  have h1 := h.mk1.ord_le
  have h2 := h.le
  have h3 : ord.length ≠ ord0.length := fun h4 => e (h.same h4).symm
  omega
theorem Mk.inN (h : Mk L N T 20 X ord) (hT : ∀ p ∈ T, p / 2 ∈ N) {p : Nat} (hp : p ∈ ord) : p / 2 ∈ N := by
  obtain ⟨t, ht, hr⟩ := h.cl_mem hp
  exact hr.inN (hT t ht)
end
theorem range_putObj {U : World} {D Rb : Nat} {xs : List Value} (hK : U.heap[D]? = some (.deferred (some []))) (h : U.rangeAt Rb 0 xs) : (U.putObj D (.deferred none)).rangeAt Rb 0 xs := fun j v hj => by
  have h1 := h j v hj
  have hne : Rb ≠ D := fun e => by
    simp only [World.cell?, e, hK] at h1
    cases h1
  rw [← h1]
  exact World.cell?_of_block (World.putObj_heap_other hne)
theorem results_cell {fn : Func} {t : Tmp} (h : fn.results = #[.cell t 89]) (tmps : Array Value) (b : Nat) (hb : tmps.getD t undef = .pointer (some ⟨b, 0, none⟩)) (X : List Int) (hX : X.length = 20) (w : World) (hc : w.rangeAt b 0 (X.map (Value.int .i64))) :
    (results fn tmps).run Try.prog w = .ok (.agg (aggA X)) w := by
  have h9 := run_loadVar_mid (P := Try.prog) w b 0 89 (X.map (Value.int .i64)) _ hc Try.underlying89 rfl (marks_size hX)
  have hb' : tmps[t]?.getD undef = .pointer (some ⟨b, 0, none⟩) := by simpa using hb
  simp [results, h, hb', asAddr, h9]
  rfl
theorem Below_setCells {lo b : Nat} {A : World} : ∀ {vs : List Value} {o : Nat} {w : World}, Below lo A w → lo ≤ b → Below lo A (w.setCells b o vs)
  | [], _, _, h, _ => h
  | v :: vs, o, _, h, hl => Below_setCells (vs := vs) (o := o + 1) (h.setCell (p := ⟨b, o, none⟩) hl v) hl
theorem heap_setCells_other {b D : Nat} (hne : D ≠ b) : ∀ {vs : List Value} {o : Nat} {w : World}, (w.setCells b o vs).heap[D]? = w.heap[D]?
  | [], _, _ => rfl
  | _ :: vs, o, _ => (heap_setCells_other hne (vs := vs) (o := o + 1)).trans (Below.heap_setCell _ _ _ D hne)
theorem wpList_eq_marks {ops : Array Oper} {rest : List Oper} {op : Oper} {a : Act} {Q : Exit → Act → World → Prop} {w : World} (hgd : op.guard = none) (x y : Operand) (t' : TypeId) (ho : op.op = .binOp .eql 89 x y t') (xs ys : List Int) (hx : a.eval x = .agg (aggA xs)) (hy : a.eval y = .agg (aggA ys)) (hl : xs.length = 20) (hl' : ys.length = 20)
    (h : wpList Try.prog ops Q rest (a.put op.dst (.bool (decide (xs = ys)))) w) : wpList Try.prog ops Q (op :: rest) a w :=
  wpList_plain hgd fun _ hK => by
    have hg : (eqGuard .eql 89 x y (.agg (aggA xs)) (.agg (aggA ys))).run Try.prog w = .ok () w := by
      have he : Try.prog.eqGuardType Try.prog.depth 89 = false := by kernel_rfl
      simp [eqGuard, he]
    unfold Oper.wp execOp
    simp only [ho, hx, hy, Sem.run_bind, hg, Result.andThen_ok]
    rw [show binOp .eql 89 (.agg (aggA xs)) (.agg (aggA ys)) = (do pure (.bool (← Op.equal 89 (.agg (aggA xs)) (.agg (aggA ys))))) from rfl]
    simp only [Sem.run_bind, run_eq_marks xs ys hl hl', Result.andThen_ok, Sem.run_pure]
    exact hK _ _ h
set_option maxRecDepth 100000 in
set_option maxHeartbeats 8000000 in
theorem reach_calls (L : Sat.Lay) (N : List Nat) (n lo b : Nat) (hN10 : ∀ k ∈ N, k < 10) (hNl : N.length ≤ 10) (T : List Nat) (hT : ∀ p ∈ T, p / 2 ∈ N) (hTl : T.length ≤ 1000) (W : World) (hD : Dk L N n lo W b) (v : Value) (hv : Ints W v (T.map fun (k : Nat) => (k : Int))) :
    Calls Try.prog 87 #[.pointer (some ⟨b, 0, none⟩), v] W fun e w' => ∃ (X : List Int) (ord : List Nat) (x : Later W), e = .returned (.agg (aggA X)) ∧ w' = x.w ∧ Rch L N T X ord := by
  have HD := Lib.hid hD
  clear hD
  obtain ⟨av, lv, cv, rfl⟩ : ∃ a n c, v = .slice a n c := by obtain ⟨a, c, e⟩ := hv.form; exact ⟨a, _, c, e⟩
  have HLV := Lib.hid (show lv = T.length by obtain ⟨a, c, e⟩ := hv.form; cases e; simp)
  have hlv : lv ≤ 1000 := by rw [HLV.out]; exact hTl
  refine (callsIn_wide (n := 6)).1 ?_
  refine callsIn_of_wp_marks Try.func87 rfl trivial ?_ rfl
  simp only [Try.ntmps87, List.size_toArray, List.length_cons, List.length_nil, Nat.reduceAdd, Nat.reduceSub, Array.replicate_succ, Array.replicate_zero, List.push_toArray, List.append_toArray, List.nil_append, List.cons_append]
  refine wpIn_wide.2 ?_
  go_wp2
  obtain ⟨Rb, hRb⟩ : ∃ Rb, Rb = W.heap.size := ⟨_, rfl⟩
  obtain ⟨By, hBy⟩ : ∃ By, By = Rb + 1 := ⟨_, rfl⟩
  obtain ⟨V, hV⟩ : ∃ V : World, V = (W.alloc (.cells #[.int .i64 0, .int .i64 0, .int .i64 0, .int .i64 0, .int .i64 0, .int .i64 0, .int .i64 0, .int .i64 0, .int .i64 0, .int .i64 0, .int .i64 0, .int .i64 0, .int .i64 0, .int .i64 0, .int .i64 0, .int .i64 0, .int .i64 0, .int .i64 0, .int .i64 0, .int .i64 0] 89)).alloc (.cells #[.int .i64 0, .int .i64 0, .int .i64 0, .int .i64 0, .int .i64 0, .int .i64 0, .int .i64 0, .int .i64 0, .int .i64 0, .int .i64 0, .int .i64 0, .int .i64 0, .int .i64 0, .int .i64 0, .int .i64 0, .int .i64 0, .int .i64 0, .int .i64 0, .int .i64 0, .int .i64 0] 89) := ⟨_, rfl⟩
  have hR0 : RchW W V Rb By [] (List.replicate 20 0) := by
    refine ⟨by rw [hV]; exact ((Later.new W _).step (Later.new _ _)).le, ?_, ?_, by simp, fun D hD => absurd hD (by simp), List.nodup_nil, by omega, by omega, by omega⟩
    · rw [hV, hRb]
      exact (Lin.new W 89 ((List.replicate 20 0).map (Value.int .i64))).later (Later.new _ _)
    · rw [hV, hBy, hRb]
      have h9 := Lin.new (W.alloc (.cells #[.int .i64 0, .int .i64 0, .int .i64 0, .int .i64 0, .int .i64 0, .int .i64 0, .int .i64 0, .int .i64 0, .int .i64 0, .int .i64 0, .int .i64 0, .int .i64 0, .int .i64 0, .int .i64 0, .int .i64 0, .int .i64 0, .int .i64 0, .int .i64 0, .int .i64 0, .int .i64 0] 89)) 89 ((List.replicate 20 0).map (Value.int .i64))
      rw [World.size_alloc] at h9
      exact h9
  rw [← hV]
  rw [← hRb]
  rw [← hBy]
  have hB0 := Lib.hid (Beg.start L N T)
  have HRW := Lib.hid (show Rb = W.heap.size from hRb)
  clear hV hRb hBy
  go_loopw [13] (fun i wr => ∃ (k : Nat) (X : List Int) (ord : List Nat), k ≤ lv ∧ i = .int .i64 k ∧ RchW W wr Rb By [] X ∧ Hid (Beg L N T k X ord)) (fun i _ => lv - (intOf i).toNat)
  case atStart => exact ⟨0, _, _, Nat.zero_le _, rfl, hR0, hB0⟩
  case round =>
    clear hR0 hB0 V
    obtain ⟨k, X, ord, hk, rfl, hR, hB⟩ := hrel
    have lB := hR.arr.lt
    by_cases hlt : k < lv
    · have hkT : k < T.length := by rw [← HLV.out]; exact hlt
      obtain ⟨bm, om, km, e, hkm, hbm, hgm⟩ := hv.at (k := k) (by rw [List.length_map]; exact hkT)
      injection e with e1 e2 e3
      subst e1
      obtain ⟨p, hp⟩ : ∃ p, T[k] = p := ⟨_, rfl⟩
      have m1 : wr.cell? ⟨bm, om + k, none⟩ = some (.int .i64 p) := by
        rw [(Later.mk wr hR.bel).cell hbm |> id]
        rw [hgm k (by rw [List.length_map]; exact hkT), nth_eq (by rw [List.length_map]; exact hkT)]; simp [hp]
      have ml := Nat.lt_of_lt_of_le hbm hR.bel.size
      have hpN := hN10 _ (hT p (by rw [← hp]; exact List.getElem_mem hkT))
      have hp20 : p < 20 := by omega
      obtain ⟨ord', hB'⟩ := hB.out.next hkT hp hp20
      have HB' := Lib.hid hB'
      have c1 := hR.cell hp20
      have f1 := hR.arr.frozen p
      have HR := Lib.hid (hR.set p ((p : Int) + 1))
      clear hgm hkm e2 e3 hp hB' hR hB
      go_wp2
      go_roundw
      case rel => exact ⟨k + 1, _, _, by omega, by go_num, HR.out, HB'⟩
      case measure => simp [intOf]; omega
    · obtain rfl : lv = k := by omega
      have hbg : ∀ b ∈ T, b ∈ ord := fun q hq => hB.out.all q (by rw [HLV.out, List.take_length]; exact hq)
      have HM := Lib.hid (And.intro hB.out.mk1 hbg)
      clear hB hbg lB
      go_wp2
      refine wp_loop (fun a wr => ∃ (X : List Int) (ord Ds : List Nat), RchW W wr Rb By Ds X ∧ Hid (Mk L N T 20 X ord ∧ ∀ b ∈ T, b ∈ ord) ∧ ∃ u1 u2 u3 u6 u7 u8 u9 u10 u11 u12 u13 u14 u15 u16 u17 u18 u19 u20 u21 u22 u23 u24 u25 u26 u27 u28 u29 u30 u31 u32 u33 u34 u35 u36 u37 u38 u39 u40 u41 u42 u43 u44 u45 u46 : Value, a = { tmps := #[.pointer (some ⟨b, 0, none⟩), u1, u2, u3, .pointer (some ⟨Rb, 0, none⟩), .pointer (some ⟨By, 0, none⟩), u6, u7, u8, u9, u10, u11, u12, u13, u14, u15, u16, u17, u18, u19, u20, u21, u22, u23, u24, u25, u26, u27, u28, u29, u30, u31, u32, u33, u34, u35, u36, u37, u38, u39, u40, u41, u42, u43, u44, u45, u46], defers := Ds.map mark }) (fun _ wr => zer By wr) ?start ?round
      case start =>
        refine ⟨X, ord, [], hR, HM, ?_⟩
        (repeat apply Exists.intro)
        rfl
      case round =>
        clear hR HM hk hlt ord X wr
        rintro a wr ⟨X0, ord0, Ds, hR, HM, u1, u2, u3, u6, u7, u8, u9, u10, u11, u12, u13, u14, u15, u16, u17, u18, u19, u20, u21, u22, u23, u24, u25, u26, u27, u28, u29, u30, u31, u32, u33, u34, u35, u36, u37, u38, u39, u40, u41, u42, u43, u44, u45, u46, rfl⟩
        dsimp only
        have HZ := Lib.hid (zer_of hR HM.out.1)
        have hl0 := hR.len
        have hrn := hR.arr.range
        have lB := hR.arr.lt
        go_wp2_with (first
          | ((with_reducible show wpList _ _ _ (⟨some 22, _, _, _, _, _⟩ :: _) _ _); refine wpList_load_marks rfl _ rfl By 0 rfl X0 hl0 hrn ?_)
          | (refine wpList_store_marks rfl _ _ rfl rfl X0 rfl hl0 (by simp) ?_; rintro w1 hA1 ⟨x1, rfl⟩; go_frame))
        have hR1 := hR.later x1
        obtain ⟨Ws, hWs⟩ : ∃ c, c = wr.heap.size := ⟨_, rfl⟩
        rw [← hWs] at hA1 ⊢
        have hWB : Ws ≠ By := by omega
        have hWD : Ws ∉ Ds := fun hm => by have := hR.dlt hm; omega
        obtain ⟨V, hV⟩ : ∃ V, V = x1.w := ⟨_, rfl⟩
        rw [← hV] at hR1 hA1 ⊢
        have HRN := Lib.hid (Rnd.start HM.out.1 HM.out.2)
        clear hV hWs x1 hrn hR lB HM
        refine wp_loop (fun a wr => ∃ (k : Nat) (X : List Int) (ord Ds : List Nat), k ≤ 20 ∧ RchW W wr Rb By Ds X ∧ Arr wr Ws X0 ∧ Hid (Ws ∉ Ds) ∧ Hid (Rnd L N T X0 ord0 k [] X ord) ∧ ∃ u1 u2 u3 u6 u7 u9 u10 u11 u12 u13 u14 u15 u16 u17 u18 u19 u20 u21 u22 u24 u25 u26 u27 u28 u29 u30 u31 u32 u33 u34 u35 u36 u37 u38 u39 u40 u41 u42 u43 u44 u45 u46 : Value, a = { tmps := #[.pointer (some ⟨b, 0, none⟩), u1, u2, u3, .pointer (some ⟨Rb, 0, none⟩), .pointer (some ⟨By, 0, none⟩), u6, u7, .pointer (some ⟨Ws, 0, none⟩), u9, u10, u11, u12, u13, u14, u15, u16, u17, u18, u19, u20, u21, u22, .int .i64 (k : Int), u24, u25, u26, u27, u28, u29, u30, u31, u32, u33, u34, u35, u36, u37, u38, u39, u40, u41, u42, u43, u44, u45, u46], defers := Ds.map mark }) (fun a _ => 20 - (intOf (a.tmps.getD 23 undef)).toNat) ?start2 ?round2
        case start2 =>
          refine ⟨0, X0, ord0, Ds, by omega, hR1, hA1, Lib.hid hWD, HRN, ?_⟩
          (repeat apply Exists.intro)
          rfl
        case round2 =>
          clear hR1 hA1 hWD HRN V Ds u1 u2 u3 u6 u7 u8 u9 u10 u11 u12 u13 u14 u15 u16 u17 u18 u19 u20 u21 u22 u23 u24 u25 u26 u27 u28 u29 u30 u31 u32 u33 u34 u35 u36 u37 u38 u39 u40 u41 u42 u43 u44 u45 u46
          rintro a wr2 ⟨k, X, ord, Ds, hk, hR, hA, HWD, HRN, u1, u2, u3, u6, u7, u9, u10, u11, u12, u13, u14, u15, u16, u17, u18, u19, u20, u21, u22, u24, u25, u26, u27, u28, u29, u30, u31, u32, u33, u34, u35, u36, u37, u38, u39, u40, u41, u42, u43, u44, u45, u46, rfl⟩
          dsimp only
          by_cases hlt : k < 20
          · have c1 := hA.cell (k := k) (by rw [hl0]; exact hlt)
            have lW := hA.lt
            have d1 : decide ((k : Int) < 20) = true := decide_eq_true (by omega)
            obtain ⟨v, hv0⟩ : ∃ v, nth X0 k = v := ⟨_, rfl⟩
            rw [hv0] at c1
            have HV := Lib.hid hv0
            clear hv0
            by_cases hz : v = 0
            · subst hz
              go_wp2
              refine ⟨⟨k + 1, X, ord, Ds, by omega, hR.later (Later.new wr2 _), hA.later (Later.new wr2 _), HWD, Lib.hid (HRN.out.skip hlt HV.out), ?_⟩, by simp [intOf]; omega⟩
              (repeat apply Exists.intro)
              rfl
            · have dz : (v == 0) = false := by simpa using hz
              have hko : k ∈ ord0 := (HRN.out.mk0.mem k hlt).1 (by rw [show at0 X0 k = nth X0 k from rfl, HV.out]; exact hz)
              go_wp2_with fail
              refine (steps_calls b (k : Int) _).mono ?_
              rintro e w' ⟨rfl, rfl⟩
              go_wp2
              obtain ⟨Pb, hPb⟩ : ∃ p, p = wr2.heap.size := ⟨_, rfl⟩
              obtain ⟨U0, hU0⟩ : ∃ U0, U0 = ((wr2.alloc (.cells #[.int .i64 (k : Int)] 3)).alloc (.cells #[.pointer (some ⟨b, 0, none⟩)] 65)).alloc (.cells #[.int .i64 (k : Int)] 3) := ⟨_, rfl⟩
              have hR3 : RchW W U0 Rb By Ds X := by rw [hU0]; exact ((hR.later (Later.new _ _)).later (Later.new _ _)).later (Later.new _ _)
              have hA3 : Arr U0 Ws X0 := by rw [hU0]; exact ((hA.later (Later.new _ _)).later (Later.new _ _)).later (Later.new _ _)
              have bP3 : Boxed U0 Pb 3 (.int .i64 (k : Int)) := by rw [hU0, hPb]; exact ((Boxed.new wr2 _ _).alloc _).alloc _
              have k1 : U0.cell? ⟨Pb + 1, 0, none⟩ = some (.pointer (some ⟨b, 0, none⟩)) := by rw [hU0, hPb]; simp [go_sem]
              have k2 : U0.cell? ⟨Pb + 1 + 1, 0, none⟩ = some (.int .i64 (k : Int)) := by rw [hU0, hPb]; simp [go_sem]
              have k3 : U0.heap.size = Pb + 3 := by rw [hU0, hPb]; simp
              have lWP : W.heap.size ≤ Pb := by rw [hPb]; exact hR.bel.size
              have lBP : By < Pb := by rw [hPb]; exact hR.arr.lt
              have lRP : Rb < Pb := by rw [hPb]; exact hR.res.lt
              have lSP : Ws < Pb := by rw [hPb]; exact hA.lt
              have lDP : ∀ D ∈ Ds, D < Pb := fun D hD => by rw [hPb]; exact hR.dlt hD
              have hkN := Mk.inN HRN.out.mk0 hT hko
              rw [← hU0]
              rw [← hPb]
              clear hU0 hPb c1 lW d1 dz hR hA hz HV
              refine (wpIn_wide (n := 6)).1 ?_
              refine wpIn_rangeFunc_ownG (F := Fence.wide) (n := 6) rfl (by decide) (gf := 90) (lb := #[.pointer (some ⟨Pb + 1, 0, none⟩), .pointer (some ⟨Pb + 1 + 1, 0, none⟩)]) rfl trivial (enters_of Try.func90 (by kernel_rfl) rfl)
                (steps_stops 5 (Pb + 1) (Pb + 1 + 1) b n lo k L N hN10 hNl hkN W HD.out U0 hR3.bel k1 k2) (fun h k => h.t k) (KpS.b (by omega) (by omega) (by omega)) (Below.refl _ _) (fun _ => rfl)
                (fun (pre : List (Plc L N k)) U => ∃ (X : List Int) (ord : List Nat), RchW W U Rb By Ds X ∧ Arr U Ws X0 ∧ Boxed U Pb 3 (.int .i64 (k : Int)) ∧ Hid (Rnd L N T X0 ord0 k (pre.map fun y => y.1) X ord) ∧ U0.heap.size ≤ U.heap.size)
                (fun _ _ _ => False) ?grw
                (fun _ _ _ _ _ hs _ _ => hs)
                ⟨X, ord, hR3, hA3, bP3, HRN, Nat.le_refl _⟩
                (fun x => { tmps := #[.pointer (some ⟨b, 0, none⟩), u1, u2, u3, .pointer (some ⟨Rb, 0, none⟩), .pointer (some ⟨By, 0, none⟩), u6, u7, .pointer (some ⟨Ws, 0, none⟩), .pointer (some ⟨Pb, 0, none⟩), .int .i64 (x.1 : Int), u11, u12, u13, u14, u15, u16, u17, u18, u19, u20, u21, u22, .int .i64 (k : Int), .bool true, .int .i64 (k : Int), .int .i64 (k : Int), .pointer (some ⟨Ws, k, none⟩), .int .i64 v, .bool false, .pointer (some ⟨b, 0, none⟩), .int .i64 (k : Int), .func (.func 90) #[] #[.pointer (some ⟨Pb + 1, 0, none⟩), .pointer (some ⟨Pb + 1 + 1, 0, none⟩)], .int .i64 (x.1 : Int), u34, u35, u36, u37, u38, u39, u40, u41, u42, u43, u44, u45, u46], defers := [] }) ?assign ?body ?done ?stop
              case grw =>
                rintro pre A B row ⟨X, ord, h1, h2, h3, h4, h5⟩ hg hr
                have hne : ∀ c v T k, A.heap[c]? = some (.cells v T k) → some c ≠ row := fun c v T k hc e => by
                  obtain ⟨o, ho, hcl⟩ := (hr c e.symm).2
                  rw [hc] at ho
                  cases ho
                  cases hcl
                refine ⟨X, ord, h1.grown hg (fun r e => ?_), h2.kept hg (hne _ _ _ _ h2), h3.kept hg (hne _ _ _ _ h3), h4, Nat.le_trans h5 hg.size⟩
                have := (hr r e).1
                exact ⟨by omega, fun hm => by have := lDP r hm; omega, by omega, by omega⟩
              case assign =>
                intro l x U K hK
                gi_wp2
                exact hK
              case body =>
                rintro l pre ⟨q, hql, hqN⟩ U ⟨X, ord, h1, h2, h3, h4, h5⟩ hlen
                have hq20 : q < 20 := by have := hN10 _ hqN; omega
                have c1 := h1.cell hq20
                have f1 := h1.arr.frozen q
                have lB := h1.arr.lt
                have c2 := h3.cell
                have l2 := h3.lt
                obtain ⟨v, hv0⟩ : ∃ v, nth X q = v := ⟨_, rfl⟩
                rw [hv0] at c1
                by_cases hz : v = 0
                · subst hz
                  have HN := Lib.hid (h4.out.new hq20 hv0 hko hql hqN)
                  have HS := Lib.hid (h1.set q ((k : Int) + 1))
                  have HA := Lib.hid (h2.kept (grownBy_setCell_at U By q (.int .i64 ((k : Int) + 1))) (fun e => hWB (by cases e; rfl)))
                  have HP := Lib.hid (h3.kept (grownBy_setCell_at U By q (.int .i64 ((k : Int) + 1))) (fun e => by cases e; omega))
                  have HK := Lib.hid (show KpS W.heap.size (Pb + 1) (Pb + 1 + 1) U (U.setCell ⟨By, q, none⟩ (.int .i64 ((k : Int) + 1))) from
                    ⟨(Below.refl _ _).setCell (p := ⟨By, q, none⟩) h1.loB _, World.cell?_setCell_other _ _ _ _ (fun e => by injection e with e1 e2; omega), World.cell?_setCell_other _ _ _ _ (fun e => by injection e with e1 e2; omega)⟩)
                  have HSZ := Lib.hid (show U0.heap.size ≤ (U.setCell ⟨By, q, none⟩ (.int .i64 ((k : Int) + 1))).heap.size by simp [World.setCell]; exact h5)
                  clear h1 h2 h3 h4 hv0
                  gi_wp2
                  exact ⟨(KeepsOthers.setCell _ _ _).from _, HK.out, _, _, HS.out, HA.out, HP.out, by unfold Hid; rw [List.map_append]; exact HN.out, HSZ.out⟩
                · have dz : (v == 0) = false := by simpa using hz
                  have HN := Lib.hid (h4.out.seen hq20 (by rw [hv0]; exact hz))
                  have HK := Lib.hid (KpS.of (n0 := W.heap.size) (c1 := Pb + 1) (c2 := Pb + 1 + 1) (Later.self U) h1.bel.size (by omega) (by omega))
                  clear h4 hv0
                  gi_wp2
                  exact ⟨KeepsFrom.refl _ _, HK.out, _, _, h1, h2, h3, by unfold Hid; rw [List.map_append]; exact HN.out, h5⟩
              case done =>
                rintro D ys U hD hys ⟨X, ord, h1, h2, h3, h4, h5⟩ hK
                have h4' := h4.out
                rw [hys] at h4'
                have HN := Lib.hid h4'.all
                have h9 := h1.push hK (by omega) (fun hm => by have := lDP D hm; omega)
                have HW2 := Lib.hid (show Ws ∉ D :: Ds from fun hm => by
                  rcases List.mem_cons.1 hm with e | hm
                  · omega
                  · exact HWD.out hm)
                clear h4' h4 h1 h3
                go_wp2
                refine ⟨⟨k + 1, X, ord, D :: Ds, by omega, h9, h2, HW2, HN, ?_⟩, by simp [intOf]; omega⟩
                (repeat apply Exists.intro)
                rfl
              case stop =>
                rintro D c pre W _ _ h _
                exact h.elim
          · obtain rfl : k = 20 := by omega
            have hrW := hA.range
            have hrB := hR.arr.range
            have hlX := hR.len
            have lB := hR.arr.lt
            have lW := hA.lt
            by_cases he : X0 = X
            · have HF := Lib.hid (HRN.out.fin he)
              have hde : decide (X0 = X) = true := decide_eq_true he
              have hth : wr2.there Rb 0 (aggA X).size := fun j hj => by
                have h9 : j < 20 := by simpa [aggA, hlX] using hj
                rw [Nat.zero_add]
                exact ⟨by rw [hR.res.cell (by simpa using h9)]; rfl, hR.res.frozen j⟩
              have HB2 := Lib.hid (Below_setCells (vs := X.map (Value.int .i64)) (o := 0) hR.bel hR.loR)
              have HD2 := Lib.hid (show ∀ D ∈ Ds, W.heap.size ≤ D ∧ (wr2.setCells Rb 0 (X.map (Value.int .i64))).heap[D]? = some (.deferred (some [])) from fun D hD => ⟨(hR.ds D hD).1, by
                rw [heap_setCells_other]
                · exact (hR.ds D hD).2
                · intro e
                  have h1 := (hR.ds D hD).2
                  rw [e, show wr2.heap[Rb]? = _ from hR.res] at h1
                  cases h1⟩)
              have HR2 := Lib.hid (World.rangeAt_setCells_same wr2 Rb 0 (X.map (Value.int .i64)) (by simpa [aggA] using hth))
              have HND := Lib.hid hR.nd
              clear hR hA HRN he
              go_wp2_with (first
                | ((with_reducible show wpList _ _ _ (⟨some 43, _, _, _, _, _⟩ :: _) _ _); refine wpList_load_marks rfl _ rfl Ws 0 rfl X0 hl0 hrW ?_)
                | ((with_reducible show wpList _ _ _ (⟨some 44, _, _, _, _, _⟩ :: _) _ _); refine wpList_load_marks rfl _ rfl By 0 rfl X hlX hrB ?_)
                | ((with_reducible show wpList _ _ _ (⟨some 45, _, _, _, _, _⟩ :: _) _ _); refine wpList_eq_marks rfl _ _ _ rfl X0 X rfl rfl hl0 hlX ?_; rw [hde])
                | ((with_reducible show wpList _ _ _ (⟨some 46, _, _, _, _, _⟩ :: _) _ _); refine wpList_load_marks rfl _ rfl By 0 rfl X hlX hrB ?_)
                | (refine wpList_store_mid rfl 89 _ _ rfl Rb 0 (aggA X) rfl rfl hth (by rw [show (aggA X).size = (X.map (Value.int .i64)).length by simp [aggA]]; exact marks_size hlX) (all_oneCell_toArray (fun v hv => by obtain ⟨y, _, rfl⟩ := List.mem_map.1 hv; rfl)) ?_))
              refine leaves_marks (by simp) (fun U => Below W.heap.size W U ∧ U.rangeAt Rb 0 (X.map (Value.int .i64))) W.heap.size (fun U D hD hK hU => ⟨hU.1.grown (grownBy_putObj' U D (.deferred none)) hU.1.size (fun r e => by cases e; exact hD), range_putObj hK hU.2⟩) (fun U hU => ?_) Ds _ HND.out HD2.out ⟨HB2.out, HR2.out⟩
              refine ⟨_, results_cell (t := 4) rfl _ Rb (by rfl) X hlX U hU.2, ?_⟩
              exact ⟨X, ord, ⟨U, hU.1⟩, rfl, rfl, HF.out⟩
            · have HF := Lib.hid (HRN.out.more he)
              have hde : decide (X0 = X) = false := decide_eq_false he
              have HZ2 := Lib.hid (zer_of hR HRN.out.mk1)
              have HM2 := Lib.hid (And.intro HRN.out.mk1 (fun b hb => HRN.out.ext b (HRN.out.beg b hb)))
              clear HRN he
              go_wp2_with (first
                | ((with_reducible show wpList _ _ _ (⟨some 43, _, _, _, _, _⟩ :: _) _ _); refine wpList_load_marks rfl _ rfl Ws 0 rfl X0 hl0 hrW ?_)
                | ((with_reducible show wpList _ _ _ (⟨some 44, _, _, _, _, _⟩ :: _) _ _); refine wpList_load_marks rfl _ rfl By 0 rfl X hlX hrB ?_)
                | ((with_reducible show wpList _ _ _ (⟨some 45, _, _, _, _, _⟩ :: _) _ _); refine wpList_eq_marks rfl _ _ _ rfl X0 X rfl rfl hl0 hlX ?_; rw [hde]))
              refine ⟨⟨X, ord, Ds, hR, HM2, ?_⟩, by rw [HZ.out, HZ2.out]; exact HF.out⟩
              (repeat apply Exists.intro)
              rfl

end Go.Proofs.Ytdhdpbnlhnodjaa

/-  The program: way; the library's Reverse. -/
namespace Go.Proofs.Ytdhdpbnlhnodjaa
open Go.RowKit
open Sat (at0 Mk Path Way R)

namespace Mix
/-- one operation that yields a value, in a region walked in an order of one's own -/
theorem gval {P : Program} {ops : Array Oper} {W0 : World} {cls : Nat → Cls} {Q : Act → World → Prop} {i : Nat} {rest : List Nat} {a : Act} {w : World} (o : Oper) (ho : ops[i]? = some o) (hc : cls i = .val) (hv : valOp o.op = true) (hw : Region.wanted o (yielded ops a.tmps) = true)
    (h : ∀ K : Act → Prop, (∀ a', Good P ops W0 cls Q rest a' w → K a') → o.quiet P a (fun w' => ∃ x : Later W0, w' = x.w) K) : Good P ops W0 cls Q (i :: rest) a w := by
  obtain ⟨v, h1, h2⟩ := h (fun a' => Good P ops W0 cls Q rest a' w) (fun _ h => h)
  refine gcons o ho (.inr (.inl ⟨fun _ => hc, v, .inl ⟨hw, fun w' hw' => ?_⟩, h2⟩))
  have h3 := h1 w' hw'
  unfold Oper.quietAt at h3
  cases hr : (execOp a.eval o).run P w' with
  | ok n w1 =>
    obtain ⟨u, rfl⟩ := valOp_run hv hr
    rw [hr] at h3
    simp only [Oper.quietUpon] at h3
    rw [h3.1, h3.2]
  | halt x w1 => rw [hr] at h3; exact h3.elim
end Mix
/-- a list of which the first k numbers are exchanged for the last k -/
def rvF (xs : List Int) (k : Nat) : List Int := (List.range xs.length).map fun i => if i < k ∨ xs.length - 1 - i < k then nth xs (xs.length - 1 - i) else nth xs i
theorem rvF_len (xs : List Int) (k : Nat) : (rvF xs k).length = xs.length := by simp [rvF]
theorem rvF_nth (xs : List Int) (k : Nat) {i : Nat} (hi : i < xs.length) : nth (rvF xs k) i = if i < k ∨ xs.length - 1 - i < k then nth xs (xs.length - 1 - i) else nth xs i := by
  rw [nth_eq (by rw [rvF_len]; exact hi)]; simp [rvF]
theorem rvF_zero (xs : List Int) : rvF xs 0 = xs := by
  apply List.ext_getElem (rvF_len _ _)
  intro i h1 h2
  rw [← nth_eq h1, rvF_nth _ _ h2, if_neg (by omega), nth_eq h2]
theorem rvF_step (xs : List Int) (k : Nat) (h : 2 * k + 1 < xs.length) : ((rvF xs k).set k (nth xs (xs.length - 1 - k))).set (xs.length - 1 - k) (nth xs k) = rvF xs (k + 1) := by
  apply List.ext_getElem (by simp [rvF_len])
  intro i h1 h2
  have hi : i < xs.length := by simpa [rvF_len] using h2
  rw [← nth_eq h1, ← nth_eq h2, rvF_nth _ _ hi, nth_set _ _ _ _ (by simp [rvF_len]; omega), nth_set _ _ _ _ (by simp [rvF_len]; omega), rvF_nth _ _ hi]
  by_cases e1 : i = xs.length - 1 - k
  · rw [if_pos e1, if_pos (by omega), show xs.length - 1 - i = k by omega]
  · rw [if_neg e1]
    by_cases e2 : i = k
    · subst e2; rw [if_pos rfl, if_pos (by omega)]
    · rw [if_neg e2]
      by_cases e3 : i < k ∨ xs.length - 1 - i < k
      · rw [if_pos e3, if_pos (by omega)]
      · rw [if_neg e3, if_neg (by omega)]
theorem rvF_end (xs : List Int) (k : Nat) (h : xs.length ≤ 2 * k + 1) : rvF xs k = xs.reverse := by
  apply List.ext_getElem (by simp [rvF_len])
  intro i h1 h2
  have hi : i < xs.length := by simpa using h2
  rw [← nth_eq h1, rvF_nth _ _ hi, List.getElem_reverse, ← nth_eq (by omega)]
  by_cases e : i < k ∨ xs.length - 1 - i < k
  · rw [if_pos e]
  · rw [if_neg e, show xs.length - 1 - i = i by omega]
theorem IntsM.own {lo n c : Nat} {w : World} {a : Option Addr} {xs : List Int} (h : IntsM lo w (.slice a n c) xs) (h0 : 0 < xs.length) : ∃ g, a = some ⟨g, 0, none⟩ := by
  obtain ⟨g, e, _⟩ := h.set (k := 0) h0 0
  exact ⟨g, e⟩
def RevP (lo : Nat) (W : World) (v : Value) (xs : List Int) (e : Ending) (w' : World) : Prop := (∃ r, e = .returned r) ∧ IntsM lo w' v xs.reverse ∧ W.grownBy w' v.ownBlock
theorem _root_.Go.World.grownBy.trans2 {U V X : World} {r : Option Nat} (h1 : U.grownBy V r) (h2 : V.grownBy X r) : U.grownBy X r := grown_trans h1 h2
theorem grown_refl (W : World) (r : Option Nat) : W.grownBy W r := ⟨rfl, rfl, rfl, Nat.le_refl _, fun _ _ _ => rfl⟩
set_option maxRecDepth 100000 in
set_option maxHeartbeats 4000000 in
theorem Reverse_calls (lo n c : Nat) (a : Option Addr) (xs : List Int) (W : World) (h : IntsM lo W (.slice a n c) xs) (hn : xs.length ≤ 1000) : Calls Try.prog 88 #[.slice a n c] W (RevP lo W (.slice a n c) xs) := by
  have HN := Lib.hid (show n = xs.length by obtain ⟨a, c, e⟩ := h.form; cases e; rfl)
  have hn2 : n ≤ 1000 := by rw [HN.out]; exact hn
  go_enter Try.func88, Try.ntmps88
  go_wp2
  go_loopw [2, 3] (fun i j wr => ∃ k : Nat, 2 * k ≤ n ∧ i = .int .i64 k ∧ j = .int .i64 ((n : Int) - 1 - k) ∧ IntsM lo wr (.slice a n c) (rvF xs k) ∧ W.grownBy wr (Value.slice a n c).ownBlock) (fun i _ _ => n - (intOf i).toNat)
  case atStart => exact ⟨0, by omega, rfl, by go_num, by rw [rvF_zero]; exact h, grown_refl _ _⟩
  case round =>
    clear h
    obtain ⟨k, hk, rfl, rfl, hI, hG⟩ := hrel
    by_cases hlt : 2 * k + 1 < n
    · obtain ⟨j, hj⟩ : ∃ j, n - 1 - k = j := ⟨_, rfl⟩
      have ej : (n : Int) - 1 - k = (j : Int) := by omega
      rw [ej]
      have HEJ := Lib.hid ej
      have hjn : j < n := by omega
      have hkn : k < n := by omega
      have hkj : k < j := by omega
      have HST := Lib.hid (rvF_step xs k (by rw [← HN.out]; exact hlt))
      have hvk := rvF_nth xs k (i := k) (by rw [← HN.out]; exact hkn)
      have hvj := rvF_nth xs k (i := j) (by rw [← HN.out]; exact hjn)
      rw [if_neg (by rw [← HN.out]; omega)] at hvk hvj
      rw [← HN.out, hj] at HST
      obtain ⟨yk, hyk⟩ : ∃ y, nth xs k = y := ⟨_, rfl⟩
      obtain ⟨yj, hyj⟩ : ∃ y, nth xs j = y := ⟨_, rfl⟩
      rw [hyk, hyj] at HST
      obtain ⟨g, rfl, -, hgl, hgs, hnc, fk, ck, -, -⟩ := hI.set (k := k) (by rw [rvF_len, ← HN.out]; exact hkn) 0
      obtain ⟨g2, e2, -, -, -, -, fj, cj, -, -⟩ := hI.set (k := j) (by rw [rvF_len, ← HN.out]; exact hjn) 0
      cases e2
      rw [hvk, hyk] at ck
      rw [hvj, hyj] at cj
      clear hvk hvj hyk hyj ej hj
      have lgn : (j : Int) < n := by omega
      go_wp2_with fail
      refine wp_region_any (by kernel_rfl) ?_
      refine wpAny_take (i := 2) (v := .slice (some ⟨g, 0, none⟩) n c) rfl (by kernel_rfl) (by kernel_rfl) (by kernel_rfl) (fun _ _ _ h => h) (.inl ⟨by rfl, fun w => by rfl⟩) ?_
      simp only [List.getElem_toArray, List.getElem_cons_succ, List.getElem_cons_zero, Act.put, List.setIfInBounds_toArray, List.set]
      refine wpAny_take (i := 3) (v := .int .i64 (j : Int)) rfl (by kernel_rfl) (by kernel_rfl) (by kernel_rfl) (fun _ _ _ h => h) (.inl ⟨by rfl, fun w => by rfl⟩) ?_
      simp only [List.getElem_toArray, List.getElem_cons_succ, List.getElem_cons_zero, Act.put, List.setIfInBounds_toArray, List.set]
      refine Mix.any_rest (W0 := wr) (rem := [0, 1, 4, 5, 6, 7, 8, 9, 10, 11, 12, 13, 14, 15]) (cls := Mix.kinds [] [] [13, 14, 15]) (by kernel_rfl) ⟨Later.draw _, rfl⟩ ?_
      show Mix.Good _ _ _ _ _ _ _ (Later.draw wr).w
      iterate 11 (refine Mix.gval _ rfl rfl (by rfl) (by rfl) (fun K hK => ?_); (simp only [List.getElem_toArray, List.getElem_cons_succ, List.getElem_cons_zero]); go_big_quiet_op; refine hK _ ?_; clear hK K)
      refine Mix.glast _ rfl rfl (by rfl) (by decide) (fun x1 K1 hK1 => ?_)
      obtain ⟨g3, e3, -, -, gs1, -, fk1, ck1, hI1, hG1⟩ := ((hI.later (Later.draw wr)).later x1).set (k := k) (by rw [rvF_len, ← HN.out]; exact hkn) yj
      cases e3
      simp only [List.getElem_toArray, List.getElem_cons_succ, List.getElem_cons_zero]
      clear ck cj fk fj
      go_wp2_with fail
      try clear fk1 ck1 gs1
      obtain ⟨V1, hV1⟩ : ∃ V, x1.w.setCell ⟨g, k, none⟩ (.int .i64 yj) = V := ⟨_, rfl⟩
      rw [hV1] at hI1 hG1 ⊢
      have hg1 := ((grown_up (Later.draw wr).grown : wr.grownBy _ (some g)).trans2 (grown_up x1.grown)).trans2 hG1
      clear hV1 hG1 hI x1
      refine Mix.glast _ rfl rfl (by rfl) (by decide) (fun x2 K2 hK2 => ?_)
      simp only [List.getElem_toArray, List.getElem_cons_succ, List.getElem_cons_zero]
      go_wp2_with fail
      skip
      refine Mix.glast _ rfl rfl (by rfl) (by decide) (fun x3 K3 hK3 => ?_)
      obtain ⟨g4, e4, -, -, gs2, -, fj1, cj1, hI2, hG2⟩ := ((hI1.later x2).later x3).set (k := j) (by rw [List.length_set, rvF_len, ← HN.out]; exact hjn) yk
      cases e4
      simp only [List.getElem_toArray, List.getElem_cons_succ, List.getElem_cons_zero]
      go_wp2_with fail
      try clear fj1 cj1 gs2
      obtain ⟨V2, hV2⟩ : ∃ V, x3.w.setCell ⟨g, j, none⟩ (.int .i64 yk) = V := ⟨_, rfl⟩
      rw [hV2] at hI2 hG2 ⊢
      have hg2 := ((hg1.trans2 (grown_up x2.grown)).trans2 (grown_up x3.grown)).trans2 hG2
      clear hV2 hG2 hI1 x3 x2 hg1 V1
      refine Mix.gdone (fun x4 => ?_)
      have HI := Lib.hid (show IntsM lo x4.w (.slice (some ⟨g, 0, none⟩) n c) (rvF xs (k + 1)) by rw [← HST.out]; exact hI2.later x4)
      have HG := Lib.hid (hG.trans2 (hg2.trans2 (grown_up x4.grown)))
      clear hI2 hg2 hG
      go_wp2
      go_roundw
      case rel => exact ⟨k + 1, by omega, by go_num, by rw [← HEJ.out]; go_num, HI.out, HG.out⟩
      case measure => simp [intOf]; omega
    · have HE := Lib.hid (rvF_end xs k (by rw [← HN.out]; omega))
      go_wp2
      go_end0
      exact ⟨⟨_, rfl⟩, by rw [← HE.out]; exact hI, hG⟩

end Go.Proofs.Ytdhdpbnlhnodjaa
