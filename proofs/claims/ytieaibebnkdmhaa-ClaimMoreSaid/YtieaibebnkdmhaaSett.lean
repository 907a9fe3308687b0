import Derived.RangeFuncNested
import Derived.RangeFuncBound
import Derived.RangeFuncCalls
import Derived.RangeFuncLeaves
import Derived.Shelf.Abstract
import Derived.Shelf.RegionOpen
import Derived.OwnWalkIn
import Derived.TacticsInMore
import Derived.LoopNIn
import Derived.LoopIn
import Derived.Test.YtieaibebnkdmhaaUns
namespace Go.Proofs.Ytieaibebnkdmhaa
open Go.RowKit Go.Shelf
attribute [local go_sem] Oper.semAt_some


theorem cell_set2 (W : World) (A B : Nat) {T1 T2 : TypeId} {u1 u2 : Value} (v1 v2 : Value) (h1 : Boxed W A T1 u1) (h2 : Boxed W B T2 u2) (hAB : A ≠ B) :
    Boxed ((W.setCell ⟨A, 0, none⟩ v1).setCell ⟨B, 0, none⟩ v2) A T1 v1 ∧ Boxed ((W.setCell ⟨A, 0, none⟩ v1).setCell ⟨B, 0, none⟩ v2) B T2 v2 :=
  ⟨(h1.set v1).other hAB v2, (h2.other (Ne.symm hAB) v1).set v2⟩
theorem results_cells2 {fn : Func} {t u : Tmp} {T1 T2 : TypeId} (h : fn.results = #[.cell t T1, .cell u T2]) (tmps : Array Value) (w : World) {A B : Nat} {x y : Value}
    (P : Program) (ht : tmps.getD t undef = .pointer (some ⟨A, 0, none⟩)) (hu : tmps.getD u undef = .pointer (some ⟨B, 0, none⟩))
    (i1 : ∀ w, (isAgg T1).run P w = .ok false w) (i2 : ∀ w, (isAgg T2).run P w = .ok false w) (h1 : w.cell? ⟨A, 0, none⟩ = some x) (h2 : w.cell? ⟨B, 0, none⟩ = some y) :
    (results fn tmps).run P w = .ok (.tuple #[x, y]) w := by
  rw [Array.getD_eq_getD_getElem?] at ht hu
  simp [results, h, go_sem, ht, hu, h1, h2, i1, i2]

/-- whether two lists are settled matchings -/
def vsett (ns ss : List (List Int)) (m n : List Int) : Int :=
  if vmatch ns ss m ≠ 0 then vmatch ns ss m
  else if vmatch ns ss n ≠ 0 then vmatch ns ss n
  else if (prsTo (tabOf ns ss) ss.length ns.length).any (fun p => unsM (tabOf ns ss) m p.1 p.2 || unsM (tabOf ns ss) n p.1 p.2) then 24 else 0

def Settl (nv sv : Value) (ns ss : List (List Int)) (m n : List Int) (w : World) (e : Ending) (w' : World) : Prop :=
  ∃ a : Option Addr, ∃ x : Later w, e = .returned (.tuple #[.pointer a, .int .i64 (vsett ns ss m n)]) ∧ w' = x.w ∧ (vsett ns ss m n = 0 → CourtN w.heap.size x.w (.pointer a) nv sv (tabOf ns ss))

def SetX (M : PM) (m n : List Int) (N S b : Nat) (cc : Code) (pre : List (Pr N S)) (V : World) : Prop :=
  ∃ pre' p, cc = .ret ∧ pre = pre' ++ [p] ∧ (unsM M m p.1.1 p.1.2 || unsM M n p.1.1 p.1.2) = true ∧
    Boxed V b 67 (.pointer none) ∧ Boxed V (b + 1) 28 (.int .i64 24)

def SetW (w : World) (an aS am al : Option Addr) (cn cS cm cl : Nat) (ns ss : List (List Int)) (m l : List Int) : World := (((((w.alloc (.cells #[.slice an ns.length cn, .slice aS ss.length cS] 24)).alloc (.cells #[.slice am m.length cm] 25)).alloc (.cells #[.slice al l.length cl] 25)).alloc (.cells #[.pointer none] 67)).alloc (.cells #[.int .i64 0] 28))
theorem SetW.facts (w : World) (an aS am al : Option Addr) (cn cS cm cl : Nat) (ns ss : List (List Int)) (m l : List Int) :
    (SetW w an aS am al cn cS cm cl ns ss m l).heap.size = w.heap.size + 5 ∧ Below w.heap.size w (SetW w an aS am al cn cS cm cl ns ss m l) ∧
    (SetW w an aS am al cn cS cm cl ns ss m l).heap[w.heap.size]? = some (.cells #[.slice an ns.length cn, .slice aS ss.length cS] 24 (0, 0)) ∧
    Boxed (SetW w an aS am al cn cS cm cl ns ss m l) (w.heap.size + 1) 25 (.slice am m.length cm) ∧ Boxed (SetW w an aS am al cn cS cm cl ns ss m l) (w.heap.size + 1 + 1) 25 (.slice al l.length cl) ∧
    Boxed (SetW w an aS am al cn cS cm cl ns ss m l) (w.heap.size + 1 + 1 + 1) 67 (.pointer none) ∧ Boxed (SetW w an aS am al cn cS cm cl ns ss m l) (w.heap.size + 1 + 1 + 1 + 1) 28 (.int .i64 0) := by
  refine ⟨by simp [SetW], ?_, ?_, ?_, ?_, ?_, ?_⟩
  · exact ((((Later.new _ _).step (Later.new _ _)).step (Later.new _ _)).step (Later.new _ _)).step (Later.new _ _) |>.le
  · have h := World.alloc_heap_new w (.cells #[.slice an ns.length cn, .slice aS ss.length cS] 24)
    have hl : w.heap.size < (w.alloc (.cells #[.slice an ns.length cn, .slice aS ss.length cS] 24)).heap.size := by simp
    exact ((Below.refl _ (w.alloc (.cells #[.slice an ns.length cn, .slice aS ss.length cS] 24))).alloc (Nat.le_refl _) _ |>.alloc (by simp) _ |>.alloc (by simp) _ |>.alloc (by simp) _).block _ hl |>.trans h
  · have h := Boxed.new (w.alloc (.cells #[.slice an ns.length cn, .slice aS ss.length cS] 24)) 25 (.slice am m.length cm)
    simp only [World.size_alloc] at h
    exact ((h.alloc _).alloc _).alloc _
  · have h := Boxed.new ((w.alloc (.cells #[.slice an ns.length cn, .slice aS ss.length cS] 24)).alloc (.cells #[.slice am m.length cm] 25)) 25 (.slice al l.length cl)
    simp only [World.size_alloc] at h
    exact (h.alloc _).alloc _
  · have h := Boxed.new (((w.alloc (.cells #[.slice an ns.length cn, .slice aS ss.length cS] 24)).alloc (.cells #[.slice am m.length cm] 25)).alloc (.cells #[.slice al l.length cl] 25)) 67 (.pointer none)
    simp only [World.size_alloc] at h
    exact h.alloc _
  · have h := Boxed.new ((((w.alloc (.cells #[.slice an ns.length cn, .slice aS ss.length cS] 24)).alloc (.cells #[.slice am m.length cm] 25)).alloc (.cells #[.slice al l.length cl] 25)).alloc (.cells #[.pointer none] 67)) 28 (.int .i64 0)
    simp only [World.size_alloc] at h
    exact h

set_option maxRecDepth 100000 in
set_option maxHeartbeats 2000000 in
theorem settled_calls (nv sv mv lv : Value) (ns ss : List (List Int)) (m l : List Int) (w : World) (hn : Rows2 w nv ns) (hs : Rows2 w sv ss) (hm : Ints w mv m) (hl : Ints w lv l) :
    Calls Try.prog 72 #[.agg #[nv, sv], mv, lv] w (Settl nv sv ns ss m l w) := by
  obtain ⟨an, cn, rfl⟩ := hn.form
  obtain ⟨aS, cS, rfl⟩ := hs.form
  obtain ⟨am, cm, rfl⟩ := hm.form
  obtain ⟨al, cl, rfl⟩ := hl.form
  refine (callsIn_wide (n := 4)).1 ?_
  refine callsIn_of_wp_marks Try.func72 rfl trivial ?_ rfl
  simp only [Try.ntmps72, List.size_toArray, List.length_cons, List.length_nil, Nat.reduceAdd, Nat.reduceSub, Array.replicate_succ, Array.replicate_zero, List.push_toArray, List.append_toArray, List.nil_append, List.cons_append]
  gi_wp2_with fail
  obtain ⟨hsz, hbel, b0, b1, b1', b2, b3⟩ := SetW.facts w an aS am al cn cS cm cl ns ss m l
  obtain ⟨W5, hW5⟩ : ∃ W5, SetW w an aS am al cn cS cm cl ns ss m l = W5 := ⟨_, rfl⟩
  rw [hW5] at hsz hbel b0 b1 b1' b2 b3
  rw [SetW] at hW5
  rw [hW5]
  have hn0 : Rows2 W5 _ ns := hn.later (Later.mk W5 hbel)
  have hs0 : Rows2 W5 _ ss := hs.later (Later.mk W5 hbel)
  have hm0 : Ints W5 _ m := hm.later (Later.mk W5 hbel)
  have hl0 : Ints W5 _ l := hl.later (Later.mk W5 hbel)
  clear hW5 hn hs hm hl
  have a0 : W5.cell? ⟨w.heap.size, 0, none⟩ = some (.slice an ns.length cn) := by simp [World.cell?, b0]
  have a1 : W5.cell? ⟨w.heap.size, 1, none⟩ = some (.slice aS ss.length cS) := by simp [World.cell?, b0]
  have d1 := b1.cell
  have d1' := b1'.cell
  have c2 := b2.cell
  have c3 := b3.cell
  have f2 := b2.frozen
  have f3 := b3.frozen
  have g0 : w.heap.size < W5.heap.size := by omega
  have g1 : w.heap.size + 1 < W5.heap.size := by omega
  have g2 : w.heap.size + 1 + 1 < W5.heap.size := by omega
  have g3 : w.heap.size + 1 + 1 + 1 < W5.heap.size := by omega
  have g4 : w.heap.size + 1 + 1 + 1 + 1 < W5.heap.size := by omega
  refine ⟨trivial, callsIn_wide.2 ((matched_calls _ _ _ ns ss m _ hn0 hs0 hm0).mono ?_)⟩
  rintro e w' ⟨c, x, rfl, rfl, hC⟩
  have hxs : w.heap.size + 5 ≤ x.w.heap.size := by have := x.size; omega
  by_cases h0 : vmatch ns ss m = 0
  rotate_left
  · have hb : (vmatch ns ss m == 0) = false := by simpa using h0
    have hv := Lib.hid (show vsett ns ss m l = vmatch ns ss m by rw [vsett, if_pos h0])
    have hbb : (vmatch ns ss m != 0) = true := by simpa using h0
    gi_wp2
    have r2 := cell_set2 x.w _ _ (.pointer none) (.int .i64 (vmatch ns ss m)) (b2.later x) (b3.later x) (by omega)
    refine ⟨_, (results_cells2 rfl _ _ _ rfl rfl (fun w => by kernel_rfl) (fun w => by kernel_rfl) (((r2.1).alloc _).cell) (((r2.2).alloc _).cell)), none, Later.mk _ ?_, ret_two hv.out.symm, rfl, fun h => absurd (hv.out.symm.trans h) h0⟩
    exact (((hbel.trans (x.le.mono (by omega))).setCell (p := ⟨_, 0, none⟩) (by show _ ≤ w.heap.size + 1 + 1 + 1; omega) _).setCell (p := ⟨_, 0, none⟩) (by show _ ≤ w.heap.size + 1 + 1 + 1 + 1; omega) _).alloc (by simp; omega) _
  replace hC := hC h0
  have hml := Lib.hid (vmatch_len h0)
  have hvm := Lib.hid h0
  rw [h0]
  clear h0
  gi_wp2
  have hn1 : Rows2 (x.w.alloc (.cells #[.pointer c] 67)) _ ns := (hn0.later x).later (Later.new _ _)
  have hs1 : Rows2 (x.w.alloc (.cells #[.pointer c] 67)) _ ss := (hs0.later x).later (Later.new _ _)
  have hl1 : Ints (x.w.alloc (.cells #[.pointer c] 67)) _ l := (hl0.later x).later (Later.new _ _)
  refine ⟨trivial, callsIn_wide.2 ((matched_calls _ _ _ ns ss l _ hn1 hs1 hl1).mono ?_)⟩
  rintro e w' ⟨c', u, rfl, rfl, hC'⟩
  clear hC' hn1 hs1 hl1
  by_cases h0 : vmatch ns ss l = 0
  rotate_left
  · have hb : (vmatch ns ss l == 0) = false := by simpa using h0
    have hv := Lib.hid (show vsett ns ss m l = vmatch ns ss l by rw [vsett, if_neg (by simpa using hvm.out), if_pos h0])
    have hbb : (vmatch ns ss l != 0) = true := by simpa using h0
    gi_wp2
    have r2 := cell_set2 u.w _ _ (.pointer none) (.int .i64 (vmatch ns ss l)) (b2.later ((x.step (Later.new _ _)).step u)) (b3.later ((x.step (Later.new _ _)).step u)) (by omega)
    refine ⟨_, (results_cells2 rfl _ _ _ rfl rfl (fun w => by kernel_rfl) (fun w => by kernel_rfl) r2.1.cell r2.2.cell), none, Later.mk _ ?_, ret_two hv.out.symm, rfl, fun h => absurd (hv.out.symm.trans h) h0⟩
    exact ((hbel.trans (((x.step (Later.new _ _)).step u).le.mono (by omega))).setCell (p := ⟨_, 0, none⟩) (by show _ ≤ w.heap.size + 1 + 1 + 1; omega) _).setCell (p := ⟨_, 0, none⟩) (by show _ ≤ w.heap.size + 1 + 1 + 1 + 1; omega) _
  have hll := Lib.hid (vmatch_len h0)
  have hv := Lib.hid (show vsett ns ss m l = if (prsTo (tabOf ns ss) ss.length ns.length).any (fun p => unsM (tabOf ns ss) m p.1 p.2 || unsM (tabOf ns ss) l p.1 p.2) then 24 else 0 by rw [vsett, if_neg (by simpa using hvm.out), if_neg (by simpa using h0)])
  rw [h0]
  clear h0
  have k7x : Boxed (x.w.alloc (.cells #[.pointer c] 67)) x.w.heap.size 67 (.pointer c) := Boxed.new _ _ _
  have k7 := k7x.later u
  have q7 : (x.w.alloc (.cells #[.pointer c] 67)).cell? ⟨x.w.heap.size, 0, none⟩ = some (.pointer c) := k7x.cell
  have sx : x.w.heap.size + 1 ≤ u.w.heap.size := by have := u.size; simp at this; omega
  have hsu := u.size
  have hsx : x.w.heap.size < (x.w.alloc (.cells #[.pointer c] 67)).heap.size := by simp
  gi_wp2_with (refine ⟨trivial, ?_⟩; gi_at_call 56; refine (callsIn_wide.2 (mkPairs_calls _ _)).mono ?_; rintro e w' ⟨rfl, rfl⟩)
  obtain ⟨W0, hW0⟩ : ∃ W0, u.w.alloc (.cells #[.pointer c] 67) = W0 := ⟨_, rfl⟩
  have hs00 : W0.heap.size = u.w.heap.size + 1 := by rw [← hW0]; simp
  obtain ⟨y, hy⟩ : ∃ y : Later W5, y.w = W0 := ⟨((x.step (Later.new _ _)).step u).step (Later.new _ _), hW0⟩
  have k1 := (b1.later y).cell
  have k1' := (b1'.later y).cell
  have k2 := b2.later y
  have k3 := b3.later y
  have k9 : W0.cell? ⟨x.w.heap.size, 0, none⟩ = some (.pointer c) := by rw [← hW0]; exact (k7.alloc _).cell
  have k8 : W0.cell? ⟨u.w.heap.size, 0, none⟩ = some (.pointer c) := by rw [← hW0]; exact (Boxed.new _ _ _).cell
  have hCN : CourtN W5.heap.size W0 (.pointer c) (.slice an ns.length cn) (.slice aS ss.length cS) (tabOf ns ss) := by rw [← hW0]; exact ((hC.later (Later.new _ _)).later u).later (Later.new _ _)
  have hC0 : Court W0 (.pointer c) ns ss (tabOf ns ss) := by rw [← hy]; exact (hy ▸ hCN).court (hn0.later y) (hs0.later y)
  have hm1 := hm0.later y
  have hl1 := hl0.later y
  have hbel0 := hbel.trans (y.le.mono (by omega))
  rw [hy] at k1 k1' k2 k3 hm1 hl1 hbel0
  have l1 : x.w.heap.size < W0.heap.size := by omega
  have hd : u.w.heap.size < W0.heap.size := by omega
  have l0 : w.heap.size + 5 ≤ W0.heap.size := by omega
  rw [hW0]
  obtain ⟨B8, hB8⟩ : ∃ B8, B8 = x.w.heap.size := ⟨_, rfl⟩
  obtain ⟨B9, hB9⟩ : ∃ B9, B9 = u.w.heap.size := ⟨_, rfl⟩
  rw [← hB8] at k9 l1 ⊢
  rw [← hB9] at k8 hd ⊢
  replace hCN := hCN.mono (lo' := w.heap.size + 5) (by omega)
  clear hB8 hB9 hs00 hs0 hy y b0 b1 b1' b2 b3 hbel hsz hn0 hm0 hl0 a0 a1 d1 d1' c2 c3 f2 f3 g0 g1 g2 g3 g4 hxs k7x k7 q7 sx hsu hsx hC hvm hW0
  have hun : ∀ (x : Later W0) (p : Pr ns.length ss.length), Calls Try.prog 57 #[.pointer c, .agg #[.int .i64 p.1.1, .int .i64 p.1.2], .slice am m.length cm] x.w (Gives (.bool (unsM (tabOf ns ss) m p.1.1 p.1.2)) x.w) :=
    fun x p => unsettles_calls _ ns ss _ _ _ _ m _ (hC0.later x) (hm1.later x) (by have := hml.out; have := p.2.1; omega)
  have hun' : ∀ (x : Later W0) (p : Pr ns.length ss.length), Calls Try.prog 57 #[.pointer c, .agg #[.int .i64 p.1.1, .int .i64 p.1.2], .slice al l.length cl] x.w (Gives (.bool (unsM (tabOf ns ss) l p.1.1 p.1.2)) x.w) :=
    fun x p => unsettles_calls _ ns ss _ _ _ _ l _ (hC0.later x) (hl1.later x) (by have := hll.out; have := p.2.1; omega)
  refine wpIn_rangeFunc_ownH rfl (by decide) (gf := 81) (lb := #[.pointer (some ⟨B9, 0, none⟩)]) rfl trivial (enters_of Try.func81 (by kernel_rfl) rfl)
    (pairs1_stops _ W0.heap.size B9 _ ns ss (tabOf ns ss) W0 rfl hd k8 hC0 (ns.length * ss.length) (Nat.le_refl _)) belowK_t (belowK_b (Nat.le_refl _)) (Below.refl _ _) (fun _ => rfl)
    (fun pre V => (∀ p ∈ pre, (unsM (tabOf ns ss) m p.1.1 p.1.2 || unsM (tabOf ns ss) l p.1.1 p.1.2) = false) ∧ Below W0.heap.size W0 V)
    (fun cc pre V => SetX (tabOf ns ss) m l ns.length ss.length (w.heap.size + 1 + 1 + 1) cc pre V ∧ Below w.heap.size w V)
    (OwnFrom.and (ownFrom_pure _ _) (ownFrom_below (Nat.le_refl _) (Nat.le_refl _)))
    (fun cc => OwnFrom.and (Own.from (fun s A B row hs hg hr => by
      obtain ⟨pre', p, e1, e2, h2, h3, h4⟩ := hs
      exact ⟨pre', p, e1, e2, h2, boxed_own _ _ (fun _ => _) s A B row h3 hg hr, boxed_own _ _ (fun _ => _) s A B row h4 hg hr⟩) _) (ownFrom_below (Nat.le_refl _) (by omega)))
    ⟨by simp, Below.refl _ _⟩
    (fun p a' V => ∃ Bx, W0.heap.size ≤ Bx ∧ Paired V Bx p.1.1 p.1.2 ∧ a' = { tmps := #[Value.agg #[Value.slice an ns.length cn, Value.slice aS ss.length cS], Value.slice am m.length cm, Value.slice al l.length cl, Value.pointer (some { block := w.heap.size, off := 0 }), Value.pointer (some { block := w.heap.size + 1, off := 0 }), Value.pointer (some { block := w.heap.size + 1 + 1, off := 0 }), Value.pointer (some { block := w.heap.size + 1 + 1 + 1, off := 0 }), Value.pointer (some { block := w.heap.size + 1 + 1 + 1 + 1, off := 0 }), Value.pointer (some { block := B8, off := 0 }), Value.int IntKind.i64 0, Value.pointer c', Value.int IntKind.i64 0, .pointer (some ⟨Bx, 0, none⟩), Value.tuple #[Value.pointer c, Value.int IntKind.i64 0], Value.agg #[Value.slice an ns.length cn, Value.slice aS ss.length cS], Value.slice am m.length cm, Value.tuple #[Value.pointer c, Value.int IntKind.i64 0], Value.pointer c, Value.int IntKind.i64 0, Value.int IntKind.i64 0, Value.bool false, undef, Value.tuple #[Value.pointer c', Value.int IntKind.i64 0], Value.agg #[Value.slice an ns.length cn, Value.slice aS ss.length cS], Value.slice al l.length cl, Value.tuple #[Value.pointer c', Value.int IntKind.i64 0], Value.pointer c', Value.int IntKind.i64 0, Value.int IntKind.i64 0, Value.bool false, undef, Value.pointer c, Value.func (Fn.func 81) #[] #[Value.pointer (some { block := B9, off := 0 })], .agg #[.int .i64 p.1.1, .int .i64 p.1.2], undef, undef, undef, undef, undef, undef, undef, undef, undef, undef, undef], defers := [] })
    ?hAx ?assign ?body ?done ?stop
  case hAx => exact fun p a' s A B row ⟨Bx, h1, h2, h3⟩ hg hr => ⟨Bx, h1, (ownFrom_cells _ (fun _ => True) Bx _ _ _ () A B row ⟨h2, trivial⟩ hg hr).1, h3⟩
  case assign =>
    rintro q pre p V K ⟨hp, hB⟩ hK
    simp only [Pr.enc]
    gi_wp2
    exact hK _ _ ((KeepsOthers.alloc _ _).from _) ((Below.refl _ V).alloc hB.size _) ⟨hp, hB.alloc hB.size _⟩ ⟨V.heap.size, hB.size, Paired.new V _ _, rfl⟩
  case body =>
    rintro q pre p a' V hl ⟨r, hr⟩ ⟨hp, hB⟩ ⟨Bx, hBx, hP, rfl⟩ hlt
    have hun := hun ⟨V, hB⟩ p
    have k1 := (hB.cell (p := ⟨w.heap.size + 1, 0, none⟩) (by show w.heap.size + 1 < _; omega)).trans k1
    have k1' := (hB.cell (p := ⟨w.heap.size + 1 + 1, 0, none⟩) (by show w.heap.size + 1 + 1 < _; omega)).trans k1'
    have k9 := (hB.cell (p := ⟨B8, 0, none⟩) l1).trans k9
    have p0 := hP.cell0
    have p1 := hP.cell1
    have hBx2 := hP.lt
    have hsV := hB.size
    have q2 := k2.later ⟨V, hB⟩
    have q3 := k3.later ⟨V, hB⟩
    have c2 := q2.cell
    have c3 := q3.cell
    have f2 := q2.frozen
    have f3 := q3.frozen
    have g1 : w.heap.size + 1 < V.heap.size := by omega
    have g2 : w.heap.size + 1 + 1 < V.heap.size := by omega
    have g3 : w.heap.size + 1 + 1 + 1 < V.heap.size := by omega
    have g4 : w.heap.size + 1 + 1 + 1 + 1 < V.heap.size := by omega
    have g8 : B8 < V.heap.size := by omega
    cases hu : unsM (tabOf ns ss) m p.1.1 p.1.2
    · rw [hu] at hun
      have hun2 : ∀ z : Later V, Calls Try.prog 57 #[.pointer c, .agg #[.int .i64 p.1.1, .int .i64 p.1.2], .slice al l.length cl] z.w (Gives (.bool (unsM (tabOf ns ss) l p.1.1 p.1.2)) z.w) := fun z => hun' ((Later.mk V hB).step z) p
      gi_wp2_with (refine ⟨trivial, ?_⟩; gi_at_call 57; refine (CallsIn.inRound q (callsIn_wide.2 hun)).mono ?_; clear hun; rintro e w' ⟨rfl, z, rfl⟩)
      cases hu2 : unsM (tabOf ns ss) l p.1.1 p.1.2
      all_goals
        have hun3 := hun2 z
        rw [hu2] at hun3
        refine ⟨trivial, (CallsIn.inRound q (callsIn_wide.2 hun3)).mono ?_⟩
        rintro e w' ⟨rfl, z2, rfl⟩
      · gi_wp2
        exact ⟨KeepsFrom.below (z.step z2).le _, (z.step z2).le.mono hB.size, fun r hr => (List.mem_append.1 hr).elim (hp r) (fun e => by rw [List.mem_singleton.1 e, hu, hu2]; rfl), hB.trans ((z.step z2).le.mono hB.size)⟩
      · gi_wp2
        refine ⟨(KeepsFrom.below (z.step z2).le _).trans (((KeepsOthers.setCell _ _ _).trans (KeepsOthers.setCell _ _ _)).from _), ⟨pre, p, rfl, rfl, by rw [hu, hu2]; rfl, (cell_set2 _ _ _ (.pointer none) (.int .i64 24) (q2.later (z.step z2)) (q3.later (z.step z2)) (by omega)).1, (cell_set2 _ _ _ (.pointer none) (.int .i64 24) (q2.later (z.step z2)) (q3.later (z.step z2)) (by omega)).2⟩, ?_⟩
        exact (((hbel0.trans (hB.mono (by omega))).trans ((z.step z2).le.mono (show w.heap.size ≤ V.heap.size by omega))).setCell (p := ⟨_, 0, none⟩) (by show _ ≤ w.heap.size + 1 + 1 + 1; omega) _).setCell (p := ⟨_, 0, none⟩) (by show _ ≤ w.heap.size + 1 + 1 + 1 + 1; omega) _
    · rw [hu] at hun
      gi_wp2_with (refine ⟨trivial, ?_⟩; gi_at_call 57; refine (CallsIn.inRound q (callsIn_wide.2 hun)).mono ?_; clear hun; rintro e w' ⟨rfl, z, rfl⟩)
      refine ⟨trivial, ?_⟩
      gi_wp2
      refine ⟨(KeepsFrom.below z.le _).trans (((KeepsOthers.setCell _ _ _).trans (KeepsOthers.setCell _ _ _)).from _), ⟨pre, p, rfl, rfl, by rw [hu]; rfl, (cell_set2 _ _ _ (.pointer none) (.int .i64 24) (q2.later z) (q3.later z) (by omega)).1, (cell_set2 _ _ _ (.pointer none) (.int .i64 24) (q2.later z) (q3.later z) (by omega)).2⟩, ?_⟩
      exact (((hbel0.trans (hB.mono (by omega))).trans (z.le.mono (show w.heap.size ≤ V.heap.size by omega))).setCell (p := ⟨_, 0, none⟩) (by show _ ≤ w.heap.size + 1 + 1 + 1; omega) _).setCell (p := ⟨_, 0, none⟩) (by show _ ≤ w.heap.size + 1 + 1 + 1 + 1; omega) _
  case done =>
    rintro D xs V hD hall ⟨hne, hB⟩ hK
    have q2 := k2.later ⟨V, hB⟩
    have q3 := k3.later ⟨V, hB⟩
    have c2 := q2.cell
    have c3 := q3.cell
    have f2 := q2.frozen
    have f3 := q3.frozen
    have k9 := (hB.cell (p := ⟨B8, 0, none⟩) l1).trans k9
    have hv2 := Lib.hid (show vsett ns ss m l = 0 by
      rw [hv.out, if_neg]
      rw [Bool.not_eq_true, List.any_eq_false]
      intro q hq
      rw [← hall] at hq
      obtain ⟨q', hq', rfl⟩ := List.mem_map.1 hq
      simpa using hne q' hq')
    gi_wp2
    have r2 := cell_set2 V _ _ (.pointer c) (.int .i64 0) q2 q3 (by omega)
    have hK' := ((KeepsOthers.setCell V ⟨w.heap.size + 1 + 1 + 1, 0, none⟩ (.pointer c)).trans (KeepsOthers.setCell _ ⟨w.heap.size + 1 + 1 + 1 + 1, 0, none⟩ (.int .i64 0))).same D _ hK rfl
    have hb2 : Below w.heap.size w ((V.setCell ⟨w.heap.size + 1 + 1 + 1, 0, none⟩ (.pointer c)).setCell ⟨w.heap.size + 1 + 1 + 1 + 1, 0, none⟩ (.int .i64 0)) :=
      ((hbel0.trans (hB.mono (by omega))).setCell (p := ⟨_, 0, none⟩) (by show _ ≤ w.heap.size + 1 + 1 + 1; omega) _).setCell (p := ⟨_, 0, none⟩) (by show _ ≤ w.heap.size + 1 + 1 + 1 + 1; omega) _
    refine ⟨by simp, .inl ⟨_, _, rfl, run_takeDeferred hK', ?_⟩⟩
    refine ⟨_, results_cells2 rfl _ _ _ rfl rfl (fun w => by kernel_rfl) (fun w => by kernel_rfl) (r2.1.put (by omega)).cell (r2.2.put (by omega)).cell, c, Later.mk _ (hb2.trans (belowK_b (w := w) (Nat.le_refl _) _ D _ _ (by omega) hK' rfl rfl)), ret_two hv2.out.symm, rfl, fun _ => ?_⟩
    refine (hCN.kept fun k h1 h2 => ?_).mono (by omega)
    exact ((grownBy_putObj' _ D _).block k (by simp; have := hB.size; omega) (by simp; omega)).trans ((Below.heap_setCell _ _ _ k (by show k ≠ w.heap.size + 1 + 1 + 1 + 1; omega)).trans ((Below.heap_setCell _ _ _ k (by show k ≠ w.heap.size + 1 + 1 + 1; omega)).trans (hB.block k h2)))
  case stop =>
    rintro D cc pre V hD hpre ⟨⟨pre', p, rfl, rfl, hu, q2, q3⟩, hB⟩ hK
    have hv2 := Lib.hid (show vsett ns ss m l = 24 by
      rw [hv.out, if_pos]
      rw [List.any_eq_true]
      exact ⟨p.1, hpre.subset (List.mem_map.2 ⟨p, by simp, rfl⟩), hu⟩)
    gi_wp2
    refine ⟨by simp, .inl ⟨_, _, rfl, run_takeDeferred hK, ?_⟩⟩
    refine ⟨_, results_cells2 rfl _ _ _ rfl rfl (fun w => by kernel_rfl) (fun w => by kernel_rfl) (q2.put (by omega)).cell (q3.put (by omega)).cell, none, Later.mk _ (hB.trans (belowK_b (w := w) (Nat.le_refl _) _ D _ _ (by omega) hK rfl rfl)), ret_two hv2.out.symm, rfl, fun h => by rw [hv2.out] at h; cases h⟩
end Go.Proofs.Ytieaibebnkdmhaa
