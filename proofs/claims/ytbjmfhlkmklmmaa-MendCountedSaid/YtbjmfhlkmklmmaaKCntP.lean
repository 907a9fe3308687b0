import Derived.Test.YtbjmfhlkmklmmaaKCnt
import Derived.Test.YtbjmfhlkmklmmaaKApi
import Derived.Deep.OwnRows
import Derived.Test.YtbjmfhlkmklmmaaKIter
import Derived.Test.YtbjmfhlkmklmmaaKMix
import Derived.RangeFuncOne
import Derived.Test.YtbjmfhlkmklmmaaKNeut
/-  power. -/
namespace Go.Proofs.Ytbjmfhlkmklmmaa
open Go.RowKit
set_option maxRecDepth 100000 in
set_option maxHeartbeats 2000000 in
theorem power_calls (n e : Int) (he : 0 ≤ e) (he2 : e < 2147483648) (W : World) :
    Calls Try.prog 73 #[.int .i64 n, .int .i64 e] W fun r W' => r = .returned (.int .i64 (powF 31 n e 1)) ∧ W' = W := by
  go_enter Try.func73, Try.ntmps73
  go_wp2
  go_loop [0, 1, 5] (fun a b c => ∃ (f : Nat) (x y o : Int), a = .int .i64 x ∧ b = .int .i64 y ∧ c = .int .i64 o ∧ 0 ≤ y ∧ y < 2147483648 ∧ y < 2 ^ f ∧ Hid (powF f x y o = powF 31 n e 1)) (fun _ b _ => (intOf b).toNat)
  case atStart => exact ⟨31, n, e, 1, rfl, rfl, rfl, he, he2, by omega, rfl⟩
  case round =>
    obtain ⟨f, x, y, o, rfl, rfl, rfl, hy, hy2, hf, hR⟩ := hrel
    by_cases h0 : 0 < y
    · obtain ⟨f', rfl⟩ : ∃ f', f = f' + 1 := by
        cases f with
        | zero => simp at hf; omega
        | succ f' => exact ⟨f', rfl⟩
      rw [Int.pow_succ] at hf
      have hst := Lib.hid (show powF f' ((w64 (x * x)).tmod prm) (y / 2) (if (y % 2 == 1) = true then (w64 (o * x)).tmod prm else o) = powF 31 n e 1 by have h9 := hR.out; rw [powF, if_pos h0] at h9; exact h9)
      have hf2 : y / 2 < 2 ^ f' := by omega
      have hf3 := Lib.hid hf2
      clear hR hf hf2
      cases h9 : (y % 2 == 1)
      · rw [h9] at hst
        go_wp2
        go_round
        case rel => exact ⟨f', _, _, _, rfl, rfl, rfl, by omega, by omega, hf3.out, hst.out⟩
        case measure => simp [intOf]; omega
      · rw [h9] at hst
        go_wp2
        go_round
        case rel => exact ⟨f', _, _, _, rfl, rfl, rfl, by omega, by omega, hf3.out, hst.out⟩
        case measure => simp [intOf]; omega
    · have hst := Lib.hid (show o = powF 31 n e 1 by
        have h9 := hR.out
        cases f with
        | zero => exact h9
        | succ f' => rw [powF, if_neg h0] at h9; exact h9)
      clear hf hR
      go_wp2
      go_ret
      exact ⟨ret_int hst.out, rfl⟩
end Go.Proofs.Ytbjmfhlkmklmmaa

/-  What stands while the program counts. -/
namespace Go.Proofs.Ytbjmfhlkmklmmaa
open Go.RowKit Go.Shelf

theorem info_dents : ∃ (i : TypeInfo) (z : Value), Try.prog.info? 75 = some i ∧ i.zero = some z ∧ i.size = 36 ∧ i.bytes = 288 ∧ z.cells = (ints (List.replicate 36 0)).toArray := by
  have h : (Try.prog.info? 75).map (fun i => (i.zero.map Value.cells, i.size, i.bytes)) = some (some (ints (List.replicate 36 0)).toArray, 36, 288) := by kernel_rfl
  obtain ⟨i, hi, hz⟩ := Option.map_eq_some_iff.1 h
  simp only [Prod.mk.injEq] at hz
  obtain ⟨z, hz1, hz2⟩ := Option.map_eq_some_iff.1 hz.1
  exact ⟨i, z, hi, hz1, hz.2.1, hz.2.2, hz2⟩
theorem made_rep (m n : Nat) (hm : 0 < m) (v : Value) : madeCells (List.replicate m v).toArray n = (List.replicate n v).toArray := by
  apply Array.ext
  · simp [madeCells]
  · intro i h1 h2
    have h3 : i % m < m := Nat.mod_lt _ hm
    simp [madeCells, h3]
theorem made36 (n : Nat) : madeCells (ints (List.replicate 36 0)).toArray n = (ints (List.replicate n 0)).toArray := by
  rw [← ints_rep, ← ints_rep, made_rep _ _ (by omega)]
theorem run_make_dents (N : Nat) (hN : N ≤ 36) (w : World) :
    (Instr.makeSlice 102 (.int .i64 (N : Int)) (.int .i64 (N : Int))).run Try.prog w = .ok (.slice (some ⟨w.heap.size, 0, none⟩) N N) (w.alloc (.cells (ints (List.replicate (N * 36) 0)).toArray 75)) := by
  obtain ⟨i, z, hi, hz, hs, hb, hc⟩ := info_dents
  have h := run_make (P := Try.prog) w 102 75 i z Try.underlying102 hi hz .i64 .i64 N N (by omega) (Int.le_refl _) (by rw [hb]; omega) (by omega)
  rw [h, hc, hs, Int.toNat_natCast, made36]
/-- the marks that ranges over a function leave -/
def mark (D : Nat) : Deferred := { target := .collected D, args := #[] }
theorem leaves_marks {F : Fence} {n : Nat} {P : Program} {fn : Func} {tmps : Array Value} {R : Ending → World → Prop} {u : FrameMode} (hu : u ≠ .run) (Φ : World → Prop) (lo : Nat)
    (hΦ : ∀ U D, lo ≤ D → Φ U → Φ (U.putObj D (.deferred none))) (hfin : ∀ U, Φ U → LeavesInM F n P fn tmps R [] u U) :
    ∀ (Ds : List Nat) (U : World), Ds.Nodup → (∀ D ∈ Ds, lo ≤ D ∧ U.heap[D]? = some (.deferred (some []))) → Φ U → LeavesInM F n P fn tmps R (Ds.map mark) u U
  | [], U, _, _, h => hfin U h
  | D :: Ds, U, hnd, hd, h => by
    obtain ⟨h1, h2⟩ := List.nodup_cons.1 hnd
    refine ⟨hu, .inl ⟨D, _, rfl, run_takeDeferred (hd D (by simp)).2, ?_⟩⟩
    refine leaves_marks hu Φ lo hΦ hfin Ds _ h2 (fun E hE => ⟨(hd E (by simp [hE])).1, ?_⟩) (hΦ U D (hd D (by simp)).1 h)
    rw [World.putObj_heap_other (fun e => h1 (by rw [← e]; exact hE))]
    exact (hd E (by simp [hE])).2
structure CntW (W U : World) (Q Mb n : Nat) (Ds : List Nat) (M : List Int) : Prop where
  bel : Below W.heap.size W U
  box : Boxed U Q 102 (.slice (some ⟨Mb, 0, none⟩) n n)
  lin : Lin U Mb 75 (ints M)
  len : M.length = n * 36
  ds : ∀ D ∈ Ds, W.heap.size ≤ D ∧ U.heap[D]? = some (.deferred (some []))
  nd : Ds.Nodup
  qm : Q ≠ Mb
  loq : W.heap.size ≤ Q
  lom : W.heap.size ≤ Mb
section
variable {W U : World} {Q Mb n : Nat} {Ds : List Nat} {M : List Int}
theorem CntW.grown (h : CntW W U Q Mb n Ds M) {U' : World} {row : Option Nat} (hg : U.grownBy U' row) (hr : ∀ r, row = some r → W.heap.size ≤ r ∧ r ∉ Ds ∧ r ≠ Q ∧ r ≠ Mb) : CntW W U' Q Mb n Ds M :=
  { h with bel := h.bel.grown hg h.bel.size (fun r e => (hr r e).1), box := h.box.kept hg (fun e => (hr Q e.symm).2.2.1 rfl), lin := h.lin.kept hg (fun e => (hr Mb e.symm).2.2.2 rfl),
           ds := fun D hD => ⟨(h.ds D hD).1, (hg.block D (Array.getElem?_eq_some_iff.1 (h.ds D hD).2).1 (fun e => (hr D e.symm).2.1 hD)).trans (h.ds D hD).2⟩ }
theorem CntW.later (h : CntW W U Q Mb n Ds M) (x : Later U) : CntW W x.w Q Mb n Ds M := h.grown x.grown (fun _ e => nomatch e)
theorem CntW.notM (h : CntW W U Q Mb n Ds M) : Mb ∉ Ds := fun hm => by have h1 := (h.ds Mb hm).2; rw [show U.heap[Mb]? = _ from h.lin] at h1; cases h1
theorem CntW.set (h : CntW W U Q Mb n Ds M) (k : Nat) (v : Int) : CntW W (U.setCell ⟨Mb, k, none⟩ (.int .i64 v)) Q Mb n Ds (M.set k v) :=
  { h with bel := h.bel.setCell (p := ⟨Mb, k, none⟩) h.lom _, box := h.box.kept (grownBy_setCell_at U Mb k _) (fun e => by cases e; exact h.qm rfl), lin := by rw [← ints_set]; exact h.lin.set k _, len := by rw [List.length_set, h.len],
           ds := fun D hD => ⟨(h.ds D hD).1, (heap_setCell_other _ _ _ _ (fun e => h.notM (by rw [← show D = Mb from e]; exact hD))).trans (h.ds D hD).2⟩ }
theorem CntW.cell (h : CntW W U Q Mb n Ds M) {k : Nat} (hk : k < n * 36) : U.cell? ⟨Mb, k, none⟩ = some (.int .i64 (nth M k)) := h.lin.cell (ints_at (by rw [h.len]; exact hk))
theorem CntW.push (h : CntW W U Q Mb n Ds M) {D : Nat} (hD : U.heap[D]? = some (.deferred (some []))) (hW : W.heap.size ≤ D) (hn : D ∉ Ds) : CntW W U Q Mb n (D :: Ds) M :=
  { h with ds := fun E hE => by
             rcases List.mem_cons.1 hE with rfl | hE
             · exact ⟨hW, hD⟩
             · exact h.ds E hE
           nd := List.nodup_cons.2 ⟨hn, h.nd⟩ }
theorem CntW.dlt (h : CntW W U Q Mb n Ds M) {D : Nat} (hD : D ∈ Ds) : D < U.heap.size := (Array.getElem?_eq_some_iff.1 (h.ds D hD).2).1
end
end Go.Proofs.Ytbjmfhlkmklmmaa

/-  count of the program. -/
namespace Go.Proofs.Ytbjmfhlkmklmmaa
open Go.RowKit Go.Shelf
attribute [local go_sem] Oper.semAt_some

theorem rowP_snoc (i : Nat) (M : List Int) (l : List Nat) (x : Nat) : rowP i M (l ++ [x]) = pset (rowP i M l) i x 2147483646 := by rw [rowP, List.foldl_append]; rfl
theorem initP_snoc (w h k : Nat) : initP w h (k + 1) = rowP k (initP w h k) (nb w h k) := by rw [initP, List.range_succ, List.foldl_append]; rfl
theorem KpB.setM {Bp Bb b c k : Nat} (h1 : Bp ≠ c) (h2 : Bb ≠ c) (h3 : b ≠ c) (W : World) (v : Value) : KpB Bp Bb b W (W.setCell ⟨c, k, none⟩ v) :=
  ⟨by simp [World.setCell], World.cell?_setCell_other _ _ _ _ (fun e => by injection e with e1 e2; omega), World.cell?_setCell_other _ _ _ _ (fun e => by injection e with e1 e2; omega), World.cell?_setCell_other _ _ _ _ (fun e => by injection e with e1 e2; omega), World.cell?_setCell_other _ _ _ _ (fun e => by injection e with e1 e2; omega)⟩
set_option maxRecDepth 100000 in
set_option maxHeartbeats 8000000 in
theorem count_in (F : Fence) (m : Nat) (h67 : F.fn 67) (h68 : F.fn 68) (h74 : F.fn 74) (h73 : F.fn 73) (hro : F.round = none) (hpow : ∀ (n e : Int) (V : World), 0 ≤ e → e < 2147483648 → CallsIn F (m - 1) Try.prog 73 #[.int .i64 n, .int .i64 e] V fun r V' => r = .returned (.int .i64 (powF 31 n e 1)) ∧ V' = V) (hm : 6 ≤ m) (b w h : Nat) (dv : Value) (now bl : List Int) (hs : sized w h) (W : World) (hb : Blk W b w h dv now bl) :
    CallsIn F m Try.prog 67 #[.pointer (some ⟨b, 0, none⟩)] W (Gives (.int .i64 (cntP w h)) W) := by
  have h1 : 1 ≤ m := by omega
  have h36 : w * h ≤ 36 := Nat.mul_le_mul hs.2.1 hs.2.2.2
  obtain ⟨N, hN⟩ : ∃ N, w * h = N := ⟨_, rfl⟩
  have HN := Lib.hid hN
  have emul : IntKind.i64.wrap ((w : Int) * (h : Int)) = (N : Int) := by
    rw [show (w : Int) * (h : Int) = ((w * h : Nat) : Int) from (Int.natCast_mul _ _).symm, hN]; exact IntWalk.i64_in _ (by omega)
  rw [hN] at h36
  have hmk := run_make_dents N h36
  clear hN
  have lb := hb.lt
  have hb0 := Lib.hid hb
  have g1 := hb.cellW
  have g2 := hb.cellH
  refine callsIn_of_wp_marks Try.func67 rfl h67 ?_ hro
  simp only [Try.ntmps67, List.size_toArray, List.length_cons, List.length_nil, Nat.reduceAdd, Nat.reduceSub, Array.replicate_succ, Array.replicate_zero, List.push_toArray, List.append_toArray, List.nil_append, List.cons_append]
  gi_wp2
  refine region_later_in hro (by kernel_rfl) (by kernel_rfl) ?_
  repeat (first | gi_big_quiet_step (first
       | (fail)))
  refine wpQuietIn_nil ?_
  intro x
  gi_wp2
  obtain ⟨Mb, hMb⟩ : ∃ Mb, Mb = x.w.heap.size := ⟨_, rfl⟩
  obtain ⟨V, hV⟩ : ∃ V : Later W, V.w = (x.w.alloc (.cells (ints (List.replicate (N * 36) 0)).toArray 75)).alloc (.cells #[.slice (some ⟨x.w.heap.size, 0, none⟩) N N] 102) := ⟨(x.step (Later.new _ _)).step (Later.new _ _), rfl⟩
  have hC0 : CntW W V.w (Mb + 1) Mb N [] (initP w h 0) := by
    refine ⟨V.le, ?_, ?_, by rw [initP, HN.out]; simp, fun D hD => absurd hD (by simp), List.nodup_nil, by omega, by have := x.size; omega, by have := x.size; omega⟩
    · rw [hV, hMb]
      have h9 := Boxed.new (x.w.alloc (.cells (ints (List.replicate (N * 36) 0)).toArray 75)) 102 (.slice (some ⟨x.w.heap.size, 0, none⟩) N N)
      rw [World.size_alloc] at h9
      exact h9
    · have h9 : Lin (x.w.alloc (.cells (ints (List.replicate (N * 36) 0)).toArray 75)) x.w.heap.size 75 (ints (List.replicate (N * 36) 0)) := World.alloc_heap_new _ _
      have h8 := h9.later (Later.new _ (.cells #[.slice (some ⟨x.w.heap.size, 0, none⟩) N N] 102))
      rw [Later.new_w, ← hV, ← hMb] at h8
      rw [initP, HN.out]
      exact h8
  rw [← hV]
  rw [← hMb]
  have hbV := hb.later V
  clear hV hMb emul hmk g1 g2 lb hb
  clear x
  obtain ⟨Q, hQ⟩ : ∃ Q, Q = Mb + 1 := ⟨_, rfl⟩
  rw [← hQ] at hC0 ⊢
  clear hQ
  refine wpIn_loop (fun a wr => ∃ (k : Nat) (Ds : List Nat), k ≤ N ∧ CntW W wr Q Mb N Ds (initP w h k) ∧ ∃ u5 u6 u29 u30 u31 u32 u33 u34 u35 u36 u37 u38 u39 u40 u41 u42 u43 u44 u45 : Value, a = { tmps := #[Value.pointer (some { block := b, off := 0, spot := none }), undef, Value.int IntKind.i64 0, Value.int IntKind.i64 ↑N, Value.pointer (some { block := Q, off := 0, spot := none }), u5, u6, undef, undef, undef, undef, undef, undef, Value.pointer (some { block := b, off := 0, spot := none }), Value.pointer (some { block := b, off := 0, spot := none }), Value.pointer (some { block := b, off := 0, spot := none }), Value.pointer (some { block := b, off := 0, spot := none }), Value.int IntKind.i64 ↑w, Value.pointer (some { block := b, off := 0, spot := none }), Value.pointer (some { block := b, off := 0, spot := none }), Value.pointer (some { block := b, off := 0, spot := none }), Value.pointer (some { block := b, off := 1, spot := none }), Value.int IntKind.i64 ↑h, Value.int IntKind.i64 ↑N, Value.int IntKind.i64 ↑N, Value.slice (some { block := Mb, off := 0, spot := none }) N N, Value.slice (some { block := Mb, off := 0, spot := none }) N N, Value.int IntKind.i64 ↑N, .int .i64 (k : Int), u29, u30, u31, u32, u33, u34, u35, u36, u37, u38, u39, u40, u41, u42, u43, u44, u45, undef, undef, undef, undef, undef, undef, undef, undef, undef, undef, undef, undef, undef, undef, undef, undef, undef, undef, undef, undef, undef, undef, undef, undef, undef, undef, undef, undef, undef, undef, undef, undef, undef, undef, undef, undef, undef, undef, undef, undef, undef, undef, undef, undef, undef, undef, undef, undef, undef, undef, undef, undef, undef, undef, undef, undef, undef, undef, undef, undef, undef, undef, undef, undef, undef, undef], defers := Ds.map mark }) (fun a _ => N - (intOf (a.tmps.getD 28 undef)).toNat) ?start ?round
  case start =>
    refine ⟨0, [], Nat.zero_le _, hC0, ?_⟩
    (repeat apply Exists.intro)
    rfl
  case round =>
    rintro a wr ⟨k, Ds, hk, hC, u5, u6, u29, u30, u31, u32, u33, u34, u35, u36, u37, u38, u39, u40, u41, u42, u43, u44, u45, rfl⟩
    dsimp only
    by_cases hlt : k < N
    · have hkN : k < w * h := by rw [HN.out]; exact hlt
      have hkM : k * 36 + k < N * 36 := by omega
      have c1 := hC.box.cell
      have l1 := hC.box.lt
      gi_wp2
      have hC1 := hC.later (Later.new wr (.cells #[.int .i64 (k : Int)] 3))
      rw [Later.new_w] at hC1
      have bI := Boxed.new wr 3 (.int .i64 (k : Int))
      obtain ⟨I, hI⟩ : ∃ I, I = wr.heap.size := ⟨_, rfl⟩
      have hIQ : I ≠ Q := by omega
      have hIM : I ≠ Mb := by have := hC.lin.lt; omega
      have hID : I ∉ Ds := fun hm => by have := hC.dlt hm; omega
      have hIW : W.heap.size ≤ I := by rw [hI]; exact hC.bel.size
      obtain ⟨V1, hV1⟩ : ∃ V1, V1 = wr.alloc (.cells #[.int .i64 (k : Int)] 3) := ⟨_, rfl⟩
      rw [← hV1, ← hI] at bI
      rw [← hV1] at hC1 ⊢
      rw [← hI]
      clear hV1 hI c1 l1 hC0 hC
      have c1 := hC1.box.cell
      have l1 := hC1.box.lt
      have c2 := bI.cell
      have l2 := bI.lt
      have l3 := hC1.lin.lt
      refine Mix.region_mixL_in (Mix.kinds [] [] [5]) (by kernel_rfl) (by kernel_rfl) (by kernel_rfl) ?_
      repeat ((with_reducible refine Mix.atCons ?_); first | refine Mix.skipU (by rfl) rfl (by rfl) ?_ | (refine Mix.val rfl rfl (by rfl) (fun K hK => ?_); go_big_quiet_op; refine hK _ ?_; clear hK K))
      refine Mix.last rfl (by rfl) (fun x K hK => ?_)
      have hCx := hC1.later x
      have d1 := hCx.cell hkM
      have d2 := hCx.lin.frozen (k * 36 + k)
      have d3 := hCx.lin.lt
      have HC2 := Lib.hid (hCx.set (k * 36 + k) 4)
      have HI2 := Lib.hid ((bI.kept x.grown (by simp)).kept (grownBy_setCell_at x.w Mb (k * 36 + k) (.int .i64 4)) (fun e => by cases e; exact hIM rfl))
      clear hCx c1 l1 c2 l2 l3 hC1 bI
      go_wp2_with fail
      refine Mix.done (fun y => ?_)
      clear d1 d2 d3
      have hC2 := HC2.out.later y
      have bI := HI2.out.kept y.grown (by simp)
      rw [show ((initP w h k).set (k * 36 + k) 4) = rowP k (initP w h k) [] from rfl] at hC2
      obtain ⟨V2, hV2⟩ : ∃ V2, V2 = y.w := ⟨_, rfl⟩
      rw [← hV2] at hC2 bI ⊢
      clear hV2 y HC2 HI2 x
      clear V1
      have c2 := bI.cell
      have l2 := bI.lt
      gi_wp2_with (gi_at_call 68; refine (beside_in F (m - 1) h68 hro _ _ _).mono ?_; rintro e w' ⟨rfl, rfl⟩)
      obtain ⟨p0, hp0⟩ : ∃ p0, p0 = V2.heap.size := ⟨_, rfl⟩
      obtain ⟨U0, hU0⟩ : ∃ U0, U0 = ((V2.alloc (.cells #[.pointer (some ⟨b, 0, none⟩)] 69)).alloc (.cells #[.int .i64 (k : Int)] 3)) := ⟨_, rfl⟩
      have hC3 : CntW W U0 Q Mb N Ds (rowP k (initP w h k) []) := by rw [hU0]; exact (hC2.later (Later.new V2 _)).later (Later.new _ _)
      have bI3 : Boxed U0 I 3 (.int .i64 (k : Int)) := by rw [hU0]; exact (bI.alloc _).alloc _
      have k1 : U0.cell? ⟨p0, 0, none⟩ = some (.pointer (some ⟨b, 0, none⟩)) := by rw [hU0, hp0]; exact ((Boxed.new V2 _ _).alloc _).cell
      have k2 : U0.cell? ⟨p0 + 1, 0, none⟩ = some (.int .i64 k) := by rw [hU0, hp0]; simp [go_sem]
      have k3 : U0.heap.size = p0 + 2 := by rw [hU0, hp0]; simp
      have lW := hC2.bel.size
      have hbU : Blk U0 b w h dv now bl := by have h9 := hb0.out.later ⟨U0, hC3.bel⟩; exact h9
      have lI := bI.lt
      have lQ := hC2.box.lt
      have lM := hC2.lin.lt
      have lD : ∀ D ∈ Ds, D < p0 := fun D hD => by rw [hp0]; exact hC2.dlt hD
      rw [← hU0]
      rw [← hp0] at lI lQ lM lW ⊢
      clear hU0 hp0 hC2 bI c2 l2
      clear V2
      have hbM : b ≠ Mb := by have := hb0.out.lt; have := hC3.lom; omega
      have hbp : b < p0 := by have := hb0.out.lt; omega
      refine wpIn_rangeFunc_ownG hro h1 (gf := 74) (lb := #[.pointer (some ⟨p0 + 1, 0, none⟩), .pointer (some ⟨p0, 0, none⟩)]) rfl h74 (enters_of Try.func74 (by kernel_rfl) rfl)
        (beside_stops F (m - 1) h74 hro (by omega) (p0 + 1) p0 b w h k hs hkN U0 k2 k1 hbU.cellW hbU.cellH) (fun h k => h.t k) (KpB.b (by omega) (by omega) (by omega)) (Below.refl _ _) (fun _ => rfl)
        (fun (pre : List (Fin (w * h))) U => CntW W U Q Mb N Ds (rowP k (initP w h k) (pre.map fun y => y.1)) ∧ Boxed U I 3 (.int .i64 (k : Int)) ∧ U0.heap.size ≤ U.heap.size)
        (fun _ _ _ => False) ?grw
        (fun _ _ _ _ _ hs _ _ => hs)
        ⟨hC3, bI3, Nat.le_refl _⟩
        (fun x => { tmps := #[Value.pointer (some { block := b, off := 0, spot := none }), undef, Value.int IntKind.i64 0, Value.int IntKind.i64 ↑N, Value.pointer (some { block := Q, off := 0, spot := none }), Value.pointer (some { block := I, off := 0, spot := none }), .int .i64 (x.1 : Int), undef, undef, undef, undef, undef, undef, Value.pointer (some { block := b, off := 0, spot := none }), Value.pointer (some { block := b, off := 0, spot := none }), Value.pointer (some { block := b, off := 0, spot := none }), Value.pointer (some { block := b, off := 0, spot := none }), Value.int IntKind.i64 ↑w, Value.pointer (some { block := b, off := 0, spot := none }), Value.pointer (some { block := b, off := 0, spot := none }), Value.pointer (some { block := b, off := 0, spot := none }), Value.pointer (some { block := b, off := 1, spot := none }), Value.int IntKind.i64 ↑h, Value.int IntKind.i64 ↑N, Value.int IntKind.i64 ↑N, Value.slice (some { block := Mb, off := 0, spot := none }) N N, Value.slice (some { block := Mb, off := 0, spot := none }) N N, Value.int IntKind.i64 ↑N, Value.int IntKind.i64 ↑k, Value.bool true, Value.int IntKind.i64 ↑k, Value.slice (some { block := Mb, off := 0, spot := none }) N N, Value.int IntKind.i64 ↑k, Value.int IntKind.i64 ↑k, Value.pointer (some { block := Mb, off := k * 36, spot := none }), Value.pointer (some { block := Mb, off := k * 36 + k, spot := none }), Value.pointer (some { block := b, off := 0, spot := none }), Value.int IntKind.i64 ↑k, Value.func (Fn.func 74) #[] #[Value.pointer (some { block := p0 + 1, off := 0, spot := none }), Value.pointer (some { block := p0, off := 0, spot := none })], .int .i64 (x.1 : Int), u40, u41, u42, u43, u44, u45, undef, undef, undef, undef, undef, undef, undef, undef, undef, undef, undef, undef, undef, undef, undef, undef, undef, undef, undef, undef, undef, undef, undef, undef, undef, undef, undef, undef, undef, undef, undef, undef, undef, undef, undef, undef, undef, undef, undef, undef, undef, undef, undef, undef, undef, undef, undef, undef, undef, undef, undef, undef, undef, undef, undef, undef, undef, undef, undef, undef, undef, undef, undef, undef, undef, undef], defers := [] }) ?assign ?body ?done ?stop
      case grw =>
        intro pre A B row hs hg hr
        refine And.intro (hs.1.grown hg fun r e => ?_) (And.intro (hs.2.1.kept hg fun e => ?_) (Nat.le_trans hs.2.2 hg.size))
        · have := (hr r e).1
          exact ⟨by omega, fun hm => by have := lD r hm; omega, by omega, by omega⟩
        · have := (hr I e.symm).1
          omega
      case assign =>
        intro l x U K hK
        gi_wp2
        exact hK
      case body =>
        rintro l pre x U ⟨hC, hbI, hUs⟩ hlt4
        obtain ⟨j, hjl⟩ := x
        have hjN : j < N := by rw [← HN.out]; exact hjl
        have hj36 : j < 36 := by omega
        have hjM : k * 36 + j < N * 36 := by omega
        have c1 := hC.box.cell
        have l1 := hC.box.lt
        have c2 := hbI.cell
        have l2 := hbI.lt
        have c3 := hC.cell hjM
        have f3 := hC.lin.frozen (k * 36 + j)
        have l3 := hC.lin.lt
        have HC := Lib.hid (hC.set (k * 36 + j) 2147483646)
        have HI := Lib.hid (hbI.kept (grownBy_setCell_at U Mb (k * 36 + j) (.int .i64 2147483646)) (fun e => by cases e; exact hIM rfl))
        clear hC hbI
        gi_wp2
        refine ⟨(KeepsOthers.setCell _ _ _).from _, KpB.setM (by omega) (by omega) (by omega) _ _, ?_⟩
        refine And.intro ?_ (And.intro HI.out (Nat.le_trans hUs (by simp [World.setCell])))
        show CntW W _ Q Mb N Ds (rowP k (initP w h k) ((pre ++ [(⟨j, hjl⟩ : Fin (w * h))]).map fun y => y.1))
        rw [List.map_append]
        show CntW W _ Q Mb N Ds (rowP k (initP w h k) ((pre.map fun y => y.1) ++ [j]))
        rw [rowP_snoc]
        exact HC.out
      case done =>
        rintro D ys U hD hys ⟨hC, hbI, hUs⟩ hK
        rw [hys, ← initP_snoc] at hC
        have hC9 := hC.push hK (by omega) (fun hm => by have := lD D hm; omega)
        gi_wp2
        refine ⟨⟨k + 1, D :: Ds, by omega, hC9, ?_⟩, ?_⟩
        · (repeat apply Exists.intro)
          rfl
        · simp [intOf]; omega
      case stop =>
        rintro D c pre W _ _ h _
        exact h.elim
    · obtain rfl : k = N := by omega
      obtain ⟨R, hR⟩ : ∃ R, cntP w h = R := ⟨_, rfl⟩
      have HRR := Lib.hid hR
      have hR0 := Lib.hid (show kP k k 0 1 (initP w h k) = R by rw [← hR, cntP, HN.out])
      clear hR hC0 hbV
      gi_wp2
      gi_loopw [47, 7] (fun c al wr => ∃ (q : Nat) (all : Int) (M : List Int), q ≤ k ∧ c = .int .i64 q ∧ al = .int .i64 all ∧ CntW W wr Q Mb k Ds M ∧ Hid (kP k (k - q) q all M = R)) (fun c _ _ => k - (intOf c).toNat)
      case atStart => exact ⟨0, 1, _, Nat.zero_le _, rfl, rfl, hC, hR0.out⟩
      case round =>
        obtain ⟨q, all, M, hq, rfl, rfl, hC1, hR1⟩ := hrel
        clear hC hR0
        by_cases hqk : q < k
        · have hqq : q * 36 + q < k * 36 := by omega
          have hR2 := Lib.hid (show kP k (k - (q + 1)) (q + 1) ((w64 (all * pget M q q)).tmod prm) (iP k q (powF 31 (pget M q q) 2147483645 1) (k - (q + 1)) (q + 1) M) = R by have h9 := hR1.out; rw [show k - q = (k - (q + 1)) + 1 by omega, kP] at h9; exact h9)
          obtain ⟨P, hP⟩ : ∃ P, powF 31 (pget M q q) 2147483645 1 = P := ⟨_, rfl⟩
          obtain ⟨MT, hMT⟩ : ∃ MT, iP k q P (k - (q + 1)) (q + 1) M = MT := ⟨_, rfl⟩
          obtain ⟨al, hal⟩ : ∃ al, (w64 (all * pget M q q)).tmod prm = al := ⟨_, rfl⟩
          rw [hP, hMT, hal] at hR2
          have HMT := Lib.hid hMT
          have HP := Lib.hid hP
          have HAL := Lib.hid hal
          have hal2 : (wrap64 (all * nth M (q * 36 + q))).tmod 2147483647 = al := hal
          have c1 := hC1.box.cell
          have l1 := hC1.box.lt
          have c2 := hC1.cell hqq
          have l2 := hC1.lin.lt
          have HC := Lib.hid hC1
          clear hMT hP hal hR1 hC1
          gi_wp2_with (gi_at_call 73; refine (hpow _ _ _ (by omega) (by omega)).mono ?_; rintro e w' ⟨rfl, rfl⟩)
          have HP2 := Lib.hid (show powF 31 (nth M (q * 36 + q)) 2147483645 1 = P from HP.out)
          rw [HP2.out]
          clear HP HP2 c1 l1 c2 l2 hal2
          gi_wp2
          gi_loopw [10] (fun c wr => ∃ (i : Nat) (M : List Int), i ≤ k ∧ q + 1 ≤ i ∧ c = .int .i64 i ∧ CntW W wr Q Mb k Ds M ∧ Hid (iP k q P (k - i) i M = MT)) (fun c _ => k - (intOf c).toNat)
          case atStart => exact ⟨q + 1, M, by omega, Nat.le_refl _, by go_num, HC.out, HMT.out⟩
          case round =>
            obtain ⟨i, M2, hi, hqi, rfl, hC2, hR3⟩ := hrel
            clear HC HMT
            by_cases hik : i < k
            · have hiq : i * 36 + q < k * 36 := by omega
              obtain ⟨T, hT⟩ : ∃ T, w64 (prm - (w64 (pget M2 i q * P)).tmod prm) = T := ⟨_, rfl⟩
              have hR4 := Lib.hid (show iP k q P (k - (i + 1)) (i + 1) (jP q i T (k - q) q M2) = MT by have h9 := hR3.out; rw [show k - i = (k - (i + 1)) + 1 by omega, iP, hT] at h9; exact h9)
              obtain ⟨MJ, hMJ⟩ : ∃ MJ, jP q i T (k - q) q M2 = MJ := ⟨_, rfl⟩
              rw [hMJ] at hR4
              have HMJ := Lib.hid hMJ
              have hT2 : wrap64 (2147483647 - (wrap64 (nth M2 (i * 36 + q) * P)).tmod 2147483647) = T := hT
              have c1 := hC2.box.cell
              have l1 := hC2.box.lt
              have c2 := hC2.cell hiq
              have l2 := hC2.lin.lt
              have HC := Lib.hid hC2
              clear hMJ hT hR3 hC2
              gi_wp2
              rw [hT2]
              clear hT2 c1 l1 c2 l2
              gi_loopw [12] (fun c wr => ∃ (j : Nat) (M : List Int), j ≤ k ∧ q ≤ j ∧ c = .int .i64 j ∧ CntW W wr Q Mb k Ds M ∧ Hid (jP q i T (k - j) j M = MJ)) (fun c _ => k - (intOf c).toNat)
              case atStart => exact ⟨q, M2, by omega, Nat.le_refl _, rfl, HC.out, HMJ.out⟩
              case round =>
                obtain ⟨j, M3, hj, hqj, rfl, hC3, hR5⟩ := hrel
                clear HC HMJ
                by_cases hjk : j < k
                · have hij : i * 36 + j < k * 36 := by omega
                  have hqj2 : q * 36 + j < k * 36 := by omega
                  have hi36 : i < 36 := by omega
                  have hj36 : j < 36 := by omega
                  obtain ⟨v, hv⟩ : ∃ v, (w64 (pget M3 i j + w64 (T * pget M3 q j))).tmod prm = v := ⟨_, rfl⟩
                  have hR6 := Lib.hid (show jP q i T (k - (j + 1)) (j + 1) (pset M3 i j v) = MJ by have h9 := hR5.out; rw [show k - j = (k - (j + 1)) + 1 by omega, jP, hv] at h9; exact h9)
                  have hv2 : (wrap64 (nth M3 (i * 36 + j) + wrap64 (T * nth M3 (q * 36 + j)))).tmod 2147483647 = v := hv
                  have c1 := hC3.box.cell
                  have l1 := hC3.box.lt
                  have c2 := hC3.cell hij
                  have c3 := hC3.cell hqj2
                  have l2 := hC3.lin.lt
                  clear hv hR5
                  gi_wp2
                  refine Mix.region_mixL_in (Mix.kinds [] [] [21]) (by kernel_rfl) (by kernel_rfl) (by kernel_rfl) ?_
                  repeat ((with_reducible refine Mix.atCons ?_); first | refine Mix.skipU (by rfl) rfl (by rfl) ?_ | (refine Mix.val rfl rfl (by rfl) (fun K hK => ?_); go_big_quiet_op; refine hK _ ?_; clear hK K))
                  refine Mix.last rfl (by rfl) (fun x K hK => ?_)
                  have hCx := hC3.later x
                  have d1 := hCx.cell hij
                  have d2 := hCx.lin.frozen (i * 36 + j)
                  have d3 := hCx.lin.lt
                  have HC4 := Lib.hid (hCx.set (i * 36 + j) v)
                  clear hCx hC3 c1 l1 c2 c3 l2 hv2
                  go_wp2_with fail
                  refine Mix.done (fun y => ?_)
                  clear d1 d2 d3
                  gi_wp2
                  go_roundw
                  case rel => exact ⟨j + 1, _, by omega, by omega, by go_num, HC4.out.later y, hR6.out⟩
                  case measure => simp [intOf]; omega
                · obtain rfl : j = k := by omega
                  have hMM : M3 = MJ := by have h9 := hR5.out; rw [Nat.sub_self, jP] at h9; exact h9
                  rw [hMM] at hC3
                  clear hR5 hMM
                  gi_wp2
                  go_roundw
                  case rel => exact ⟨i + 1, _, by omega, by omega, by go_num, hC3, hR4.out⟩
                  case measure => simp [intOf]; omega
            · obtain rfl : i = k := by omega
              have hMM : M2 = MT := by have h9 := hR3.out; rw [Nat.sub_self, iP] at h9; exact h9
              rw [hMM] at hC2
              clear hR3 hMM
              gi_wp2
              go_roundw
              case rel => exact ⟨q + 1, _, _, by omega, by go_num, rfl, hC2, hR2.out⟩
              case measure => simp [intOf]; omega
        · obtain rfl : q = k := by omega
          have hMM : all = R := by have h9 := hR1.out; rw [Nat.sub_self, kP] at h9; exact h9
          have HF := Lib.hid (hMM.trans HRR.out.symm)
          clear hR1 hMM
          gi_wp2
          refine leaves_marks (by simp) (fun U => Below W.heap.size W U) W.heap.size (fun U D hD hU => hU.grown (grownBy_putObj' U D (.deferred none)) hU.size (fun r e => by cases e; exact hD)) (fun U hU => ?_) Ds _ hC1.nd hC1.ds hC1.bel
          refine ⟨_, results_tmp (t := 2) rfl _ _ _, ?_⟩
          exact And.intro (show Ending.returned (Value.int .i64 all) = .returned (.int .i64 (cntP w h)) from ret_int HF.out) ⟨⟨U, hU⟩, rfl⟩

end Go.Proofs.Ytbjmfhlkmklmmaa

/-  Count of the program, and of the definitions. -/
namespace Go.Proofs.Ytbjmfhlkmklmmaa
open Go.RowKit

def cntE (w h : Int) : Int := if sizeB w h 4 = false then 3 else 0
def cntV (w h : Int) : Int := if cntE w h = 0 then cntP w.toNat h.toNat else 0
theorem count_calls (b w h : Nat) (dv : Value) (now bl : List Int) (hs : sized w h) (W : World) (hb : Blk W b w h dv now bl) :
    Calls Try.prog 67 #[.pointer (some ⟨b, 0, none⟩)] W (Gives (.int .i64 (cntP w h)) W) :=
  (callsIn_wide (n := 6)).1 (count_in _ 6 trivial trivial trivial trivial rfl (fun n e V h1 h2 => callsIn_wide.2 (power_calls n e h1 h2 V)) (Nat.le_refl _) b w h dv now bl hs W hb)
theorem sizeB4 {w h : Int} (hz : sizeB w h 4 = true) : ∃ wn hn : Nat, w = wn ∧ h = hn ∧ sized wn hn ∧ wn ≤ 4 ∧ hn ≤ 4 := by
  simp only [sizeB, Bool.and_eq_true, decide_eq_true_iff] at hz
  exact ⟨w.toNat, h.toNat, by omega, by omega, by unfold sized; omega, by omega, by omega⟩
set_option maxRecDepth 100000 in
set_option maxHeartbeats 2000000 in
theorem Count_calls (w h : Int) (W : World) :
    Calls Try.prog 40 #[.int .i64 w, .int .i64 h] W (Gives (.tuple #[.int .i64 (cntV w h), .int .i64 (cntE w h)]) W) := by
  go_enter Try.func40, Try.ntmps40
  go_wp2_with fail
  have hI := Ints.lit W [w, h] (arr := #[.int .i64 w, .int .i64 h]) (n := 2) (b := W.heap.size) 2 rfl rfl rfl (by simp)
  refine (within_calls _ [w, h] 1 4 _ hI).mono ?_
  rintro e w' ⟨rfl, x, rfl⟩
  rw [sizeB_any]
  obtain ⟨q, hq⟩ : ∃ q : Later W, x.w = q.w := ⟨(Later.new _ _).step x, rfl⟩
  rw [hq]
  clear hq x hI
  cases hz : sizeB w h 4
  · have hE := Lib.hid (show cntE w h = 3 by rw [cntE, if_pos hz])
    have hL := Lib.hid (show cntV w h = 0 by rw [cntV, if_neg (by rw [hE.out]; simp)])
    go_wp2
    go_ret2
    exact ⟨ret_ie hL.out.symm hE.out.symm, q, rfl⟩
  · have hE := Lib.hid (show cntE w h = 0 by rw [cntE, if_neg (by rw [hz]; simp)])
    obtain ⟨wn, hn, rfl, rfl, hs, _, _⟩ := sizeB4 hz
    have hL := Lib.hid (show cntV wn hn = cntP wn hn by rw [cntV, if_pos hE.out, Int.toNat_natCast, Int.toNat_natCast])
    have h36 : wn * hn ≤ 36 := Nat.mul_le_mul hs.2.1 hs.2.2.2
    have h1w : 1 ≤ wn * hn := Nat.mul_le_mul hs.1 hs.2.2.1
    clear hz
    obtain ⟨N, hN⟩ : ∃ N, wn * hn = N := ⟨_, rfl⟩
    have emul : IntKind.i64.wrap ((wn : Int) * (hn : Int)) = (N : Int) := by
      rw [show (wn : Int) * (hn : Int) = ((wn * hn : Nat) : Int) from (Int.natCast_mul _ _).symm, hN]; exact IntWalk.i64_in _ (by omega)
    have hmk2 : ∀ (w' : World), (Instr.makeSlice 22 (.int .i64 (N : Int)) (.int .i64 (N : Int))).run Try.prog w' = .ok (.slice (some ⟨w'.heap.size, 0, none⟩) N N) (w'.alloc (.cells (madeCells #[.int .i64 0] N) 2)) :=
      fun w' => run_make_row' _ _ _ 8 Try.underlying22 (by kernel_rfl) rfl _ _ _ (by omega) (by omega) w'
    have hlen : (List.replicate N (0 : Int)).length = N := List.length_replicate
    have hSI : Ints (q.w.alloc (.cells (madeCells #[.int .i64 0] N) 2)) (.slice (some ⟨q.w.heap.size, 0, none⟩) N N) (List.replicate N 0) := by
      have h9 : Lin (q.w.alloc (.cells (madeCells #[.int .i64 0] N) 2)) q.w.heap.size 2 (ints (List.replicate N 0)) := by rw [← ints_rep]; exact Lin.made _ _ _ _
      refine ⟨by rw [hlen]; omega, .inr ⟨q.w.heap.size, 0, N, by rw [hlen], by rw [hlen]; exact Nat.le_refl _, h9.lt, fun k hk => ?_⟩⟩
      rw [Nat.zero_add]
      exact h9.cell (ints_at hk)
    have hNB := Lib.hid (newBlock_calls wn hn _ (List.replicate N 0) _ hSI (by rw [hlen]; omega) (by rw [hlen]; omega))
    clear hSI hlen hN h36 h1w
    go_wp2_with fail
    refine hNB.out.mono ?_
    rintro e w' ⟨b, x, rfl, rfl, hbz, hbk⟩
    obtain ⟨z, hz⟩ : ∃ z : Later W, z.w = x.w := ⟨(q.step (Later.new _ _)).step x, rfl⟩
    rw [← hz] at hbk ⊢
    clear hz hNB hbz x
    go_wp2_with fail
    refine (count_calls b wn hn _ _ _ hs z.w hbk).mono ?_
    rintro e w' ⟨rfl, y, rfl⟩
    go_wp2
    go_ret2
    exact ⟨ret_ie hL.out.symm hE.out.symm, z.step y, rfl⟩

set_option maxRecDepth 100000 in
set_option maxHeartbeats 2000000 in
theorem refCountA_calls (hT : ∀ w h : Nat, 1 ≤ w → w ≤ 4 → 1 ≤ h → h ≤ 4 → cntR w h = some (cntP w h)) (w h : Int) (W : World) :
    Calls Try.prog 41 #[.int .i64 w, .int .i64 h] W (Gives (.tuple #[.int .i64 (cntV w h), .int .i64 (cntE w h)]) W) := by
  cases hz : sizeB w h 4
  · have hE := Lib.hid (show cntE w h = 3 by rw [cntE, if_pos hz])
    have hL := Lib.hid (show cntV w h = 0 by rw [cntV, if_neg (by rw [hE.out]; simp)])
    go_enter Try.func41, Try.ntmps41
    go_wp2_with fail
    refine (IsSize_calls w h 4 W).mono ?_
    rintro e w' ⟨rfl, hw⟩
    rw [hw, hz]
    clear hw w'
    go_wp2
    go_ret2
    exact ⟨ret_ie hL.out.symm hE.out.symm, Later.self _, rfl⟩
  · have hE : cntE w h = 0 := by rw [cntE, if_neg (by rw [hz]; simp)]
    obtain ⟨wn, hn, rfl, rfl, hs, h1, h2⟩ := sizeB4 hz
    rw [hE, show cntV wn hn = cntP wn hn by rw [cntV, if_pos hE, Int.toNat_natCast, Int.toNat_natCast]]
    exact refCount_calls wn hn _ hs hz (hT wn hn hs.1 h1 hs.2.2.1 h2) W

end Go.Proofs.Ytbjmfhlkmklmmaa
