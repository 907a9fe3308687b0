import Derived.Lib.SliceRun
import Derived.Carry
import Derived.Laws.Tables
import Derived.OrdersHeld
import Derived.Test.YtdhdpbnlhnodjaaKDesk
import Derived.Test.YtdhdpbnlhnodjaaKOwn
import Derived.Test.YtdhdpbnlhnodjaaKRefA
import Derived.Deep.LoopGhost
/-  The program: newDesk. -/
namespace Go.Proofs.Ytdhdpbnlhnodjaa
open Go.RowKit
theorem exec_load1 {P : Program} {o : Oper} {r : Operand → Value} {p : Operand} {T : TypeId} {E k : Nat} {v : Value} (ho : o.op = .load T p) (hp : r p = .pointer (some ⟨E, k, none⟩)) (i1 : ∀ w, (isAgg T).run P w = .ok false w)
    {w : World} (h : w.cell? ⟨E, k, none⟩ = some v) : (execOp r o).run P w = .ok (.value v) w := by
  simp [execOp, ho, hp, go_sem, i1, h]
theorem wpOp_some {P : Program} {ops : Array Oper} {Q : Exit → Act → World → Prop} {i : Nat} {o : Oper} {K : Act → World → Prop} {a : Act} {w : World} (ho : ops[i]? = some o) (hw : Region.wanted o (yielded ops a.tmps) = true)
    (h : ∀ K' : Act → World → Prop, (∀ a' w', K a' w' → K' a' w') → o.wp P a w K' Q) : wpOp P ops Q i K a w := by
  unfold wpOp
  rw [ho]
  dsimp only
  rw [if_pos hw]
  exact .inl (h K fun _ _ h => h)
theorem exec_pair {o : Oper} {r : Operand → Value} {x y : Operand} {a b : Int} (ho : o.op = .build 93 #[(0, x), (1, y)]) (hx : r x = .int .i64 a) (hy : r y = .int .i64 b)
    (w : World) : (execOp r o).run Try.prog w = .ok (.value (.agg #[.int .i64 a, .int .i64 b])) w := by
  simp [execOp, ho, hx, hy, go_sem]
theorem exec_inc {o : Oper} {r : Operand → Value} {x : Operand} {g : Int} (ho : o.op = .binOp .add 3 x (.const (.int .i64 1)) 3) (hx : r x = .int .i64 g) (h1 : r (.const (.int .i64 1)) = .int .i64 1) (hg : 0 ≤ g ∧ g ≤ 100)
    (w : World) : (execOp r o).run Try.prog w = .ok (.value (.int .i64 (g + 1))) w := by
  have e : IntKind.i64.wrap (g + 1) = g + 1 := IntWalk.i64_in _ (by omega)
  simp [execOp, ho, hx, h1, go_sem, e]
theorem setCell_same {w : World} {b k : Nat} {v : Value} (h : w.cell? ⟨b, k, none⟩ = some v) : w.setCell ⟨b, k, none⟩ v = w := by
  have hb : b < w.heap.size := World.block_lt_of_cell? _ _ h
  have : (w.setCell ⟨b, k, none⟩ v).heap = w.heap := by
    refine Array.ext (by simp [World.setCell]) fun i h1 h2 => ?_
    by_cases e : i = b
    · subst e
      simp only [World.setCell, Array.getElem_modify_self]
      simp only [World.cell?, Array.getElem?_eq_getElem h2] at h
      cases ho : w.heap[i] with
      | cells cs T z =>
        rw [ho] at h
        simp at h
        simp only [Option.isSome_none, Bool.false_eq_true, if_false, Obj.cells.injEq, and_true]
        obtain ⟨hk, rfl⟩ := Array.getElem?_eq_some_iff.1 h
        rw [Array.setIfInBounds, dif_pos hk]
        exact Array.set_getElem_self hk
      | _ => rfl
    · simp [World.setCell, Array.getElem_modify, Ne.symm e]
  have e : w.setCell ⟨b, k, none⟩ v = { w with heap := (w.setCell ⟨b, k, none⟩ v).heap } := rfl
  rw [e, this]
theorem setCells_same {b : Nat} {v : Value} (n : Nat) : ∀ {o : Nat} {w : World}, (∀ j, j < n → w.cell? ⟨b, o + j, none⟩ = some v) → w.setCells b o (List.replicate n v) = w := by
  induction n with
  | zero => intro o w _; rfl
  | succ n ih =>
    intro o w h
    have h0 := h 0 (by omega)
    rw [Nat.add_zero] at h0
    rw [List.replicate_succ, World.setCells, setCell_same h0]
    exact ih fun j hj => by rw [show o + 1 + j = o + (j + 1) by omega]; exact h (j + 1) (by omega)
/-- the cells of a desk -/
def deskL (n : Int) (mv cv nv : Value) (m : Nat) (cov : List Int) : List Value := [.int .i64 n, mv, cv, .map (some m)] ++ cov.map (Value.int .i64) ++ [nv]
structure DeskB (lo : Nat) (U : World) (b m : Nat) (n : Int) (mv cv nv : Value) (M : PM) (cov : List Int) : Prop where
  lb : lo ≤ b
  lm : lo ≤ m
  blk : Lin U b 91 (deskL n mv cv nv m cov)
  tab : Tb.Tab pairV numV U m M
  len : cov.length = 20
section
variable {lo : Nat} {U : World} {b m : Nat} {n : Int} {mv cv nv : Value} {M : PM} {cov : List Int}
theorem deskL_cov {k : Nat} (hk : k < cov.length) : (deskL n mv cv nv m cov)[4 + k]? = some (.int .i64 (nth cov k)) := by
  rw [deskL, List.append_assoc, List.getElem?_append_right (by simp), List.getElem?_append_left (by simp; omega)]
  simp [nth, hk]
theorem deskL_names (h : cov.length = 20) : (deskL n mv cv nv m cov)[24]? = some nv := by
  rw [deskL, List.getElem?_append_right (by simp [h])]
  simp [h]
theorem deskL_set {k : Nat} (hk : k < cov.length) (x : Int) : (deskL n mv cv nv m cov).set (4 + k) (.int .i64 x) = deskL n mv cv nv m (cov.set k x) := by
  rw [deskL, deskL, List.append_assoc, List.append_assoc, List.set_append_right _ _ (by simp), List.set_append_left _ _ (by simp; omega)]
  simp [List.map_set]
theorem deskL_setN (h : cov.length = 20) (x : Value) : (deskL n mv cv nv m cov).set 24 x = deskL n mv cv x m cov := by
  rw [deskL, deskL, List.set_append_right _ _ (by simp [h])]
  simp [h]
theorem DeskB.ne (h : DeskB lo U b m n mv cv nv M cov) : b ≠ m := fun e => by
  obtain ⟨es, c, h1, _⟩ := h.tab
  have h2 := h.blk
  rw [Lin, e, h1] at h2
  cases h2
theorem DeskB.later (h : DeskB lo U b m n mv cv nv M cov) (x : Later U) : DeskB lo x.w b m n mv cv nv M cov := ⟨h.lb, h.lm, h.blk.later x, h.tab.later x, h.len⟩
theorem DeskB.kept (h : DeskB lo U b m n mv cv nv M cov) {U' : World} {r : Option Nat} (hg : U.grownBy U' r) (h1 : some b ≠ r) (h2 : some m ≠ r) : DeskB lo U' b m n mv cv nv M cov :=
  ⟨h.lb, h.lm, h.blk.kept hg h1, h.tab.same (hg.block m h.tab.lt h2), h.len⟩
theorem DeskB.mono (h : DeskB lo U b m n mv cv nv M cov) {lo' : Nat} (hl : lo' ≤ lo) : DeskB lo' U b m n mv cv nv M cov := ⟨Nat.le_trans hl h.lb, Nat.le_trans hl h.lm, h.blk, h.tab, h.len⟩
theorem DeskB.c0 (h : DeskB lo U b m n mv cv nv M cov) : U.cell? ⟨b, 0, none⟩ = some (.int .i64 n) := h.blk.cell rfl
theorem DeskB.c1 (h : DeskB lo U b m n mv cv nv M cov) : U.cell? ⟨b, 1, none⟩ = some mv := h.blk.cell rfl
theorem DeskB.c2 (h : DeskB lo U b m n mv cv nv M cov) : U.cell? ⟨b, 2, none⟩ = some cv := h.blk.cell rfl
theorem DeskB.c3 (h : DeskB lo U b m n mv cv nv M cov) : U.cell? ⟨b, 3, none⟩ = some (.map (some m)) := h.blk.cell rfl
theorem DeskB.cc (h : DeskB lo U b m n mv cv nv M cov) {k : Nat} (hk : k < 20) : U.cell? ⟨b, 4 + k, none⟩ = some (.int .i64 (nth cov k)) := h.blk.cell (deskL_cov (by rw [h.len]; exact hk))
theorem DeskB.c24 (h : DeskB lo U b m n mv cv nv M cov) : U.cell? ⟨b, 24, none⟩ = some nv := h.blk.cell (deskL_names h.len)
theorem DeskB.lt (h : DeskB lo U b m n mv cv nv M cov) : b < U.heap.size := h.blk.lt
/-- a count goes up -/
theorem DeskB.cover (h : DeskB lo U b m n mv cv nv M cov) {k : Nat} (hk : k < 20) (x : Int) : DeskB lo (U.setCell ⟨b, 4 + k, none⟩ (.int .i64 x)) b m n mv cv nv M (cov.set k x) ∧ U.grownBy (U.setCell ⟨b, 4 + k, none⟩ (.int .i64 x)) (some b) := by
  have hg := grownBy_setCell_at U b (4 + k) (.int .i64 x)
  refine ⟨⟨h.lb, h.lm, ?_, h.tab.same (hg.block m h.tab.lt (fun e => h.ne (Option.some.inj e).symm)), by rw [List.length_set, h.len]⟩, hg⟩
  rw [← deskL_set (by rw [h.len]; exact hk)]
  exact h.blk.set _ _
theorem DeskB.names (h : DeskB lo U b m n mv cv nv M cov) (x : Value) : DeskB lo (U.setCell ⟨b, 24, none⟩ x) b m n mv cv x M cov ∧ U.grownBy (U.setCell ⟨b, 24, none⟩ x) (some b) := by
  have hg := grownBy_setCell_at U b 24 x
  refine ⟨⟨h.lb, h.lm, ?_, h.tab.same (hg.block m h.tab.lt (fun e => h.ne (Option.some.inj e).symm)), h.len⟩, hg⟩
  rw [← deskL_setN h.len]
  exact h.blk.set _ _
theorem grownBy_setMap {U : World} {m : Nat} (o : Obj) : U.grownBy (Tb.setMap U m o) (some m) := ⟨rfl, rfl, rfl, by rw [Tb.setMap_size]; exact Nat.le_refl _, fun j _ hne => Tb.setMap_other (fun e => hne (by rw [e]))⟩
theorem DeskB.map (h : DeskB lo U b m n mv cv nv M cov) {o : Obj} {M' : PM} (hT : Tb.Tab pairV numV (Tb.setMap U m o) m M') : DeskB lo (Tb.setMap U m o) b m n mv cv nv M' cov ∧ U.grownBy (Tb.setMap U m o) (some m) :=
  ⟨⟨h.lb, h.lm, h.blk.kept (grownBy_setMap o) (fun e => h.ne (Option.some.inj e)), hT, h.len⟩, grownBy_setMap o⟩
theorem grown_up {U V : World} {r : Option Nat} (h : U.grownBy V none) : U.grownBy V r := ⟨h.os, h.tape, h.output, h.size, fun k hk _ => h.block k hk (by simp)⟩
theorem grown_trans {U V X : World} {r : Option Nat} (h1 : U.grownBy V r) (h2 : V.grownBy X r) : U.grownBy X r := ⟨h2.os.trans h1.os, h2.tape.trans h1.tape, h2.output.trans h1.output, Nat.le_trans h1.size h2.size, fun k hk hne => (h2.block k (Nat.lt_of_lt_of_le hk h1.size) hne).trans (h1.block k hk hne)⟩
theorem DeskB.entered (h : DeskB lo U b m n mv cv nv M cov) {V : World} {M' : PM} (hg : U.grownBy V (some m)) (hT : Tb.Tab pairV numV V m M') : DeskB lo V b m n mv cv nv M' cov :=
  ⟨h.lb, h.lm, h.blk.kept hg (fun e => h.ne (Option.some.inj e)), hT, h.len⟩
theorem DeskB.below (h : DeskB lo U b m n mv cv nv M cov) {U' : World} (hlo : lo ≤ U.heap.size) (hg : U.grownBy U' (some b) ∨ U.grownBy U' (some m)) : Below lo U U' := by
  rcases hg with hg | hg
  · exact (Below.refl lo U).grown hg hlo fun k hk => by cases hk; exact h.lb
  · exact (Below.refl lo U).grown hg hlo fun k hk => by cases hk; exact h.lm
end
theorem IntsM.ne_desk {lo lo' : Nat} {U : World} {b m : Nat} {n : Int} {mv cv nv v : Value} {M : PM} {cov xs : List Int} (h : IntsM lo' U v xs) (hD : DeskB lo U b m n mv cv nv M cov) : some b ≠ v.ownBlock ∧ some m ≠ v.ownBlock := by
  obtain ⟨_, hr | ⟨g, cap, cur, rfl, _, hg, _⟩⟩ := h
  · rw [hr.1]; exact ⟨by simp [Value.ownBlock], by simp [Value.ownBlock]⟩
  · constructor
    · intro e
      simp only [Value.ownBlock, Option.some.injEq] at e
      have h2 := hD.blk
      rw [Lin, e, hg] at h2
      cases h2
    · intro e
      simp only [Value.ownBlock, Option.some.injEq] at e
      obtain ⟨es, c, h1, _⟩ := hD.tab
      rw [e, hg] at h1
      cases h1
theorem bump_eq {M : PM} {k : PK} {g : Int} (h : gt M k = g) : Tb.put M k (g + 1) = bump M k := by rw [bump, h]
theorem look_gt (M : PM) (k : PK) : ((Tb.get M k).map numV).getD (.int .i64 0) = .int .i64 (gt M k) := by rw [gt]; cases Tb.get M k <;> rfl
theorem run_clear_desk {lo : Nat} (U : World) (b m : Nat) (n : Int) (mv cv nv : Value) (M : PM) (h : DeskB lo U b m n mv cv nv M (List.replicate 20 0)) (ty : TypeId) :
    (Builtin.clear_ #[23] ty #[.slice (some ⟨b, 4, none⟩) 20 20]).run Try.prog U = .ok (.tuple #[]) U := by
  have hc : ∀ j, j < 20 → U.cell? ⟨b, 4 + j, none⟩ = some (.int .i64 0) := fun j hj => by
    rw [h.cc hj, nth, List.getD_eq_getElem?_getD, List.getElem?_replicate, if_pos hj]; rfl
  rw [Lib.run_clear_slice _ 23 3 ty (.int .i64 0) Try.underlying23 (fun w => by kernel_rfl) rfl rfl _ 4 20 20 (by decide) (fun j hj => by rw [hc j hj]; rfl) (fun j hj => h.blk.frozen _), setCells_same 20 hc]
set_option maxRecDepth 100000 in
set_option maxHeartbeats 8000000 in
theorem newDesk_calls (n : Nat) (mv cv : Value) (mn : List (Nat × Nat)) (cn : List Nat) (hS : Shn n mn cn) (W : World) (hs : Sht W mv cv (mn.map prI) (cn.map fun (c : Nat) => (c : Int))) :
    Calls Try.prog 74 #[.agg #[.int .i64 n, mv, cv]] W fun e w' => ∃ b m nv, ∃ x : Later W, e = .returned (.pointer (some ⟨b, 0, none⟩)) ∧ w' = x.w ∧
      DeskB W.heap.size x.w b m n mv cv nv (meetsT (mn.map prI)) (coverA (cn.map fun (c : Nat) => (c : Int))) ∧ Ints x.w nv ((List.range n).map fun (k : Nat) => (k : Int)) := by
  have hmm := @run_makeMap Try.prog
  have h10 := hS.n10
  have HMR := Lib.hid hS.mr
  have HCR := Lib.hid hS.cr
  obtain ⟨ms, hms⟩ : ∃ ms, mn.map prI = ms := ⟨_, rfl⟩
  obtain ⟨cs, hcs⟩ : ∃ cs, (cn.map fun (c : Nat) => (c : Int)) = cs := ⟨_, rfl⟩
  rw [hms, hcs] at hs ⊢
  have HMS := Lib.hid hms
  have HCS := Lib.hid hcs
  have hml := hS.ml
  have hcl := hS.cl
  clear hms hcs
  obtain ⟨am, lm, cm, rfl⟩ : ∃ a n c, mv = .slice a n c := by obtain ⟨a, c, e⟩ := hs.m.form; exact ⟨a, _, c, e⟩
  obtain ⟨ac, lc, cc, rfl⟩ : ∃ a n c, cv = .slice a n c := by obtain ⟨a, c, e⟩ := hs.c.form; exact ⟨a, _, c, e⟩
  have HLM := Lib.hid (show lm = ms.length by obtain ⟨a, c, e⟩ := hs.m.form; cases e; rfl)
  have HLC := Lib.hid (show lc = cs.length by obtain ⟨a, c, e⟩ := hs.c.form; cases e; rfl)
  have hD0 : DeskB W.heap.size (((W.alloc (.cells #[.int .i64 n, .slice am lm cm, .slice ac lc cc] 25)).alloc (.map #[] 0)).alloc (.cells #[.int .i64 n, .slice am lm cm, .slice ac lc cc, .map (some (W.heap.size + 1)), .int .i64 0, .int .i64 0, .int .i64 0, .int .i64 0, .int .i64 0, .int .i64 0, .int .i64 0, .int .i64 0, .int .i64 0, .int .i64 0, .int .i64 0, .int .i64 0, .int .i64 0, .int .i64 0, .int .i64 0, .int .i64 0, .int .i64 0, .int .i64 0, .int .i64 0, .int .i64 0, .slice none 0 0] 91)) (W.heap.size + 1 + 1) (W.heap.size + 1) n (.slice am lm cm) (.slice ac lc cc) (.slice none 0 0) [] (List.replicate 20 0) := by
    refine ⟨by omega, by omega, ?_, ?_, by simp⟩
    · exact (congrArg _ (by simp)).trans (World.alloc_heap_new _ _)
    · refine Tb.Tab.nil _ ?_
      rw [Below.heap_alloc _ _ _ (by simp)]
      exact (congrArg _ (by simp)).trans (World.alloc_heap_new _ _)
  have hclr := run_clear_desk _ _ _ _ _ _ _ _ hD0 0
  have c0 := hD0.c0
  have c1 := hD0.c1
  have c2 := hD0.c2
  have hlt := hD0.lt
  go_enter Try.func74, Try.ntmps74
  go_wp2_with fail
  clear hclr hmm c0 c1 c2 hlt
  obtain ⟨z, hz⟩ : ∃ q : Later W, ((W.alloc (.cells #[.int .i64 n, .slice am lm cm, .slice ac lc cc] 25)).alloc (.map #[] 0)).alloc (.cells #[.int .i64 n, .slice am lm cm, .slice ac lc cc, .map (some (W.heap.size + 1)), .int .i64 0, .int .i64 0, .int .i64 0, .int .i64 0, .int .i64 0, .int .i64 0, .int .i64 0, .int .i64 0, .int .i64 0, .int .i64 0, .int .i64 0, .int .i64 0, .int .i64 0, .int .i64 0, .int .i64 0, .int .i64 0, .int .i64 0, .int .i64 0, .int .i64 0, .int .i64 0, .slice none 0 0] 91) = q.w := ⟨((Later.new _ _).step (Later.new _ _)).step (Later.new _ _), rfl⟩
  rw [hz] at hD0 ⊢
  obtain ⟨b, hb⟩ : ∃ b, W.heap.size + 1 + 1 = b := ⟨_, rfl⟩
  obtain ⟨m, hm⟩ : ∃ b, W.heap.size + 1 = b := ⟨_, rfl⟩
  rw [hb, hm] at hD0
  rw [hb]
  rw [hm]
  clear hz hb hm
  go_loopw [23] (fun i wr => ∃ (k : Nat) (u : Later W), wr = u.w ∧ k ≤ lm ∧ i = .int .i64 k ∧ DeskB W.heap.size u.w b m n (.slice am lm cm) (.slice ac lc cc) (.slice none 0 0) (meetsT (ms.take k)) (List.replicate 20 0)) (fun i _ => lm - (intOf i).toNat)
  case atStart => exact ⟨0, z, rfl, Nat.zero_le _, rfl, hD0⟩
  case round =>
    clear hD0 z
    obtain ⟨k, u, rfl, hk, rfl, hD⟩ := hrel
    have hlm : lm ≤ 40 := by rw [HLM.out, ← HMS.out, List.length_map]; exact hml
    have hbl := hD.lt
    by_cases hlt : k < lm
    · obtain ⟨bm, om, km, e, hkm, hbm, hgm⟩ := hs.m.at (k := k) (by rw [← HLM.out]; exact hlt)
      injection e with e1 e2 e3
      subst e1
      have gm := hgm k (by rw [← HLM.out]; exact hlt)
      have m1 := (u.cell hbm).trans gm.1
      have m2 := (u.cell hbm).trans gm.2
      have ml := Nat.lt_of_lt_of_le hbm u.size
      have HSN := Lib.hid (meetsT_snoc ms k (by rw [← HLM.out]; exact hlt))
      obtain ⟨p1, hp1⟩ : ∃ p, (pr ms k).1 = p := ⟨_, rfl⟩
      obtain ⟨p2, hp2⟩ : ∃ p, (pr ms k).2 = p := ⟨_, rfl⟩
      rw [hp1] at m1
      rw [hp2] at m2
      have HPR := Lib.hid (show pr ms k = (p1, p2) by rw [← hp1, ← hp2])
      have hbu := hD.lt
      clear gm hgm hkm e2 e3 hp1 hp2
      go_wp2_with fail
      obtain ⟨C, hC⟩ : ∃ C, u.w.heap.size = C := ⟨_, rfl⟩
      obtain ⟨y, hy⟩ : ∃ q : Later u.w, u.w.alloc (.cells #[.int .i64 p1, .int .i64 p2] 55) = q.w := ⟨Later.new _ _, rfl⟩
      have q1 : y.w.cell? ⟨C, 0, none⟩ = some (.int .i64 p1) := by rw [← hy, ← hC]; simp [go_sem]
      have q2 : y.w.cell? ⟨C, 1, none⟩ = some (.int .i64 p2) := by rw [← hy, ← hC]; simp [go_sem]
      have ql : C < y.w.heap.size := by rw [← hy, ← hC]; simp
      have HCM := Lib.hid (show m ≠ C by have := hD.tab.lt; omega)
      rw [hC]
      rw [hy]
      have hD1 := hD.later y
      obtain ⟨Y, hY⟩ : ∃ q : Later W, y.w = q.w := ⟨u.step y, rfl⟩
      rw [hY] at hD1 q1 q2 ql ⊢
      clear hD hC hy hY y hbu m1 m2 ml hbl u
      have hlook := hD1.tab.look pair_keys Try.underlying87 (z := .int .i64 0) (fun w => by kernel_rfl) (p1, p2) false
      obtain ⟨g, hg⟩ : ∃ g, gt (meetsT (ms.take k)) (p1, p2) = g := ⟨_, rfl⟩
      have HG := Lib.hid hg
      have hgb : 0 ≤ g ∧ g ≤ 100 := by rw [← hg]; exact (by have := gt_bound (ms.take k) (p1, p2); rw [List.length_take] at this; omega)
      clear hg
      refine wp_region_held (S := fun w' => w'.cell? ⟨b, 3, none⟩ = some (.map (some m)) ∧ w'.cell? ⟨C, 0, none⟩ = some (.int .i64 p1) ∧ w'.cell? ⟨C, 1, none⟩ = some (.int .i64 p2)) (by kernel_rfl) ?_
      show wpAnyH _ _ _ _ _ _ _ _ Y.w.drew
      obtain ⟨V, hV⟩ : ∃ V : Later Y.w, V.w = Y.w.drew := ⟨Later.draw Y.w, rfl⟩
      rw [← hV]
      have lE : V.w.cell? ⟨b, 3, none⟩ = some (.map (some m)) ∧ V.w.cell? ⟨C, 0, none⟩ = some (.int .i64 p1) ∧ V.w.cell? ⟨C, 1, none⟩ = some (.int .i64 p2) := ⟨(V.cell hD1.lt).trans hD1.c3, (V.cell ql).trans q1, (V.cell ql).trans q2⟩
      have hD2 := hD1.later V
      clear hV hlook
      refine wpAnyH_take (i := 0) (v := .pointer (some ⟨b, 0, none⟩)) rfl (by kernel_rfl) (by kernel_rfl) (by kernel_rfl) (fun _ _ _ h => h) (Yields.yieldsIf (.inl ⟨by rfl, fun w => by rfl⟩)) lE ?_
      simp only [List.getElem_toArray, List.getElem_cons_zero, Act.put, List.setIfInBounds_toArray, List.set]
      refine wpAnyH_take (i := 1) (v := .pointer (some ⟨b, 0, none⟩)) rfl (by kernel_rfl) (by kernel_rfl) (by kernel_rfl) (fun _ _ _ h => h) (Yields.yieldsIf (.inl ⟨by rfl, fun w => by rfl⟩)) lE ?_
      simp only [List.getElem_toArray, List.getElem_cons_succ, List.getElem_cons_zero, Act.put, List.setIfInBounds_toArray, List.set]
      refine wpAnyH_take (i := 2) (v := .pointer (some ⟨b, 3, none⟩)) rfl (by kernel_rfl) (by kernel_rfl) (by kernel_rfl) (fun _ _ _ h => h) (Yields.yieldsIf (.inl ⟨by rfl, fun w => by rfl⟩)) lE ?_
      simp only [List.getElem_toArray, List.getElem_cons_succ, List.getElem_cons_zero, Act.put, List.setIfInBounds_toArray, List.set]
      refine wpAnyH_take (i := 3) (v := .map (some m)) rfl (by kernel_rfl) (by kernel_rfl) (by kernel_rfl) (fun _ _ _ h => h) (.inl ⟨by rfl, fun w' hw' => exec_load1 rfl rfl (fun w => by kernel_rfl) (hw'.1)⟩) lE ?_
      simp only [List.getElem_toArray, List.getElem_cons_succ, List.getElem_cons_zero, Act.put, List.setIfInBounds_toArray, List.set]
      refine wpAnyH_take (i := 4) (v := .pointer (some ⟨C, 0, none⟩)) rfl (by kernel_rfl) (by kernel_rfl) (by kernel_rfl) (fun _ _ _ h => h) (Yields.yieldsIf (.inl ⟨by rfl, fun w => by rfl⟩)) lE ?_
      simp only [List.getElem_toArray, List.getElem_cons_succ, List.getElem_cons_zero, Act.put, List.setIfInBounds_toArray, List.set]
      refine wpAnyH_take (i := 5) (v := .int .i64 p1) rfl (by kernel_rfl) (by kernel_rfl) (by kernel_rfl) (fun _ _ _ h => h) (.inl ⟨by rfl, fun w' hw' => exec_load1 rfl rfl (fun w => by kernel_rfl) (hw'.2.1)⟩) lE ?_
      simp only [List.getElem_toArray, List.getElem_cons_succ, List.getElem_cons_zero, Act.put, List.setIfInBounds_toArray, List.set]
      refine wpAnyH_take (i := 6) (v := .pointer (some ⟨C, 1, none⟩)) rfl (by kernel_rfl) (by kernel_rfl) (by kernel_rfl) (fun _ _ _ h => h) (Yields.yieldsIf (.inl ⟨by rfl, fun w => by rfl⟩)) lE ?_
      simp only [List.getElem_toArray, List.getElem_cons_succ, List.getElem_cons_zero, Act.put, List.setIfInBounds_toArray, List.set]
      refine wpAnyH_take (i := 7) (v := .int .i64 p2) rfl (by kernel_rfl) (by kernel_rfl) (by kernel_rfl) (fun _ _ _ h => h) (.inl ⟨by rfl, fun w' hw' => exec_load1 rfl rfl (fun w => by kernel_rfl) (hw'.2.2)⟩) lE ?_
      simp only [List.getElem_toArray, List.getElem_cons_succ, List.getElem_cons_zero, Act.put, List.setIfInBounds_toArray, List.set]
      refine wpAnyH_take (i := 8) (v := .agg #[.int .i64 p1, .int .i64 p2]) rfl (by kernel_rfl) (by kernel_rfl) (by kernel_rfl) (fun _ _ _ h => h) (.inl ⟨by rfl, fun w' _ => exec_pair rfl rfl rfl w'⟩) lE ?_
      simp only [List.getElem_toArray, List.getElem_cons_succ, List.getElem_cons_zero, Act.put, List.setIfInBounds_toArray, List.set]
      obtain ⟨v0, st, o1, hrun1, ⟨M1, hT1, hM1⟩, hnext⟩ := hD2.tab.entry pair_keys Try.underlying87 (z := .int .i64 0) (fun w => by kernel_rfl) 0 rfl (p1, p2)
      have hlook0 := hD2.tab.look pair_keys Try.underlying87 (z := .int .i64 0) (fun w => by kernel_rfl) (p1, p2) false
      have hlook1 := hT1.look pair_keys Try.underlying87 (z := .int .i64 0) (fun w => by kernel_rfl) (p1, p2) false
      rw [look_gt, HG.out] at hlook0
      rw [look_gt, show gt M1 (p1, p2) = g by rw [gt, hM1, ← gt, HG.out]] at hlook1
      have hlt1 := hD2.tab.lt
      have hgm1 := grownBy_setMap (U := V.w) (m := m) o1
      obtain ⟨o2, hrun2, hT2⟩ := hnext (Tb.setMap V.w m o1) (g + 1) (Tb.setMap_same hlt1)
      have hgm2 := grownBy_setMap (U := Tb.setMap V.w m o1) (m := m) o2
      simp only [pairV, numV, goInt, Bool.false_eq_true, if_false] at hrun1 hrun2 hlook0 hlook1
      obtain ⟨U1, hU1⟩ : ∃ U1, Tb.setMap V.w m o1 = U1 := ⟨_, rfl⟩
      rw [hU1] at hrun1 hrun2 hlook1 hgm1 hT2 hgm2
      obtain ⟨U2, hU2⟩ : ∃ U2, Tb.setMap U1 m o2 = U2 := ⟨_, rfl⟩
      rw [hU2] at hrun2 hT2 hgm2
      have hgall := grown_trans hgm1 hgm2
      have hD3 := hD2.entered hgall hT2
      rw [show Tb.put (meetsT (ms.take k)) (p1, p2) (g + 1) = bump (meetsT (ms.take k)) (p1, p2) from bump_eq HG.out] at hD3
      have lE1 : U1.cell? ⟨b, 3, none⟩ = some (.map (some m)) ∧ U1.cell? ⟨C, 0, none⟩ = some (.int .i64 p1) ∧ U1.cell? ⟨C, 1, none⟩ = some (.int .i64 p2) := ⟨hgm1.cell lE.1 (by simp; exact hD2.ne), hgm1.cell lE.2.1 (by simp; exact HCM.out.symm), hgm1.cell lE.2.2 (by simp; exact HCM.out.symm)⟩
      have lE2 : U2.cell? ⟨b, 3, none⟩ = some (.map (some m)) ∧ U2.cell? ⟨C, 0, none⟩ = some (.int .i64 p1) ∧ U2.cell? ⟨C, 1, none⟩ = some (.int .i64 p2) := ⟨hgm2.cell lE1.1 (by simp; exact hD2.ne), hgm2.cell lE1.2.1 (by simp; exact HCM.out.symm), hgm2.cell lE1.2.2 (by simp; exact HCM.out.symm)⟩
      have ql2 : C < U2.heap.size := Nat.lt_of_lt_of_le ql (Nat.le_trans V.size hgall.size)
      obtain ⟨Y2, hY2⟩ : ∃ q : Later W, q.w = U2 := ⟨⟨U2, (Y.step V).le.trans (hD2.below (Y.step V).size (.inr hgall))⟩, rfl⟩
      have HLE := Lib.hid lE
      have HLE1 := Lib.hid lE1
      have HLE2 := Lib.hid lE2
      have HK0 := Lib.hid hlook0
      have HK1 := Lib.hid hlook1
      have HR1 := Lib.hid hrun1
      have HR2 := Lib.hid hrun2
      clear hU1 hU2 hT1 hM1 hnext hgm1 hgm2 hT2 hgall hlt1 lE lE1 lE2 hlook0 hlook1 hrun1 hrun2 hD1 q1 q2 ql
      refine wpAnyH_all (rs := [9, 11]) (by kernel_rfl) (by simp) (fun i hi => ?_)
      have hcases : i = 9 ∨ i = 11 := by simpa using hi
      clear hi
      rcases hcases with rfl | rfl
      · have hk := HK0.out
        refine wpOp_some rfl (by rfl) (fun K hK => ?_)
        simp only [List.getElem_toArray, List.getElem_cons_succ, List.getElem_cons_zero]
        go_wp2_with fail
        refine ⟨HLE.out, ?_⟩
        clear hk
        refine wpAnyH_take (i := 10) (v := .int .i64 (g + 1)) rfl (by kernel_rfl) (by kernel_rfl) (by kernel_rfl) (fun _ _ _ h => h) (.inl ⟨by rfl, fun w' _ => exec_inc rfl rfl rfl hgb w'⟩) HLE.out ?_
        simp only [List.getElem_toArray, List.getElem_cons_succ, List.getElem_cons_zero, Act.put, List.setIfInBounds_toArray, List.set]
        have hk := HR1.out
        refine wpAnyH_all (rs := [11]) (by kernel_rfl) (by simp) (fun i hi => ?_)
        obtain rfl : i = 11 := by simpa using hi
        clear hi
        refine wpOp_some rfl (by rfl) (fun K hK => ?_)
        simp only [List.getElem_toArray, List.getElem_cons_succ, List.getElem_cons_zero]
        go_wp2_with fail
        refine ⟨HLE1.out, ?_⟩
        clear hk
        refine wpAnyH_take (i := 12) (v := .int .i64 (st : Int)) rfl (by kernel_rfl) (by kernel_rfl) (by kernel_rfl) (fun _ _ _ h => h) (Yields.yieldsIf (.inl ⟨by rfl, fun w => by rfl⟩)) HLE1.out ?_
        simp only [List.getElem_toArray, List.getElem_cons_succ, List.getElem_cons_zero, Act.put, List.setIfInBounds_toArray, List.set]
        have hk := HR2.out
        refine wpAnyH_all (rs := [13]) (by kernel_rfl) (by simp) (fun i hi => ?_)
        obtain rfl : i = 13 := by simpa using hi
        clear hi
        refine wpOp_some rfl (by rfl) (fun K hK => ?_)
        simp only [List.getElem_toArray, List.getElem_cons_succ, List.getElem_cons_zero]
        go_wp2_with fail
        refine ⟨HLE2.out, wpAnyH_done (by kernel_rfl) ?_ _⟩
        clear hk
        rw [← hY2] at hD3 HLE2 ql2 ⊢
        have q1 := HLE2.out.2.1
        have q2 := HLE2.out.2.2
        clear hY2 HLE HLE1 HLE2 HK0 HK1 HR1 HR2 hD2 V Y U2 U1
        clear HG hgb
        have hD1 := hD3
        have ql := ql2
        clear hD3 ql2
        obtain ⟨Y, rfl⟩ : ∃ Y, Y = Y2 := ⟨_, rfl⟩
        go_wp2_with fail
        have hlook := hD1.tab.look pair_keys Try.underlying87 (z := .int .i64 0) (fun w => by kernel_rfl) (p2, p1) false
        obtain ⟨g, hg⟩ : ∃ g, gt (bump (meetsT (ms.take k)) (p1, p2)) (p2, p1) = g := ⟨_, rfl⟩
        have HG := Lib.hid hg
        have hgb : 0 ≤ g ∧ g ≤ 100 := by rw [← hg]; exact (by have := gt_bound (ms.take k) (p2, p1); rw [List.length_take] at this; have h2 := gt_bump_le (meetsT (ms.take k)) (p1, p2) (p2, p1) (B := 80) (by omega); omega)
        clear hg
        refine wp_region_held (S := fun w' => w'.cell? ⟨b, 3, none⟩ = some (.map (some m)) ∧ w'.cell? ⟨C, 0, none⟩ = some (.int .i64 p1) ∧ w'.cell? ⟨C, 1, none⟩ = some (.int .i64 p2)) (by kernel_rfl) ?_
        show wpAnyH _ _ _ _ _ _ _ _ Y.w.drew
        obtain ⟨V, hV⟩ : ∃ V : Later Y.w, V.w = Y.w.drew := ⟨Later.draw Y.w, rfl⟩
        rw [← hV]
        have lE : V.w.cell? ⟨b, 3, none⟩ = some (.map (some m)) ∧ V.w.cell? ⟨C, 0, none⟩ = some (.int .i64 p1) ∧ V.w.cell? ⟨C, 1, none⟩ = some (.int .i64 p2) := ⟨(V.cell hD1.lt).trans hD1.c3, (V.cell ql).trans q1, (V.cell ql).trans q2⟩
        have hD2 := hD1.later V
        clear hV hlook
        refine wpAnyH_take (i := 0) (v := .pointer (some ⟨b, 0, none⟩)) rfl (by kernel_rfl) (by kernel_rfl) (by kernel_rfl) (fun _ _ _ h => h) (Yields.yieldsIf (.inl ⟨by rfl, fun w => by rfl⟩)) lE ?_
        simp only [List.getElem_toArray, List.getElem_cons_zero, Act.put, List.setIfInBounds_toArray, List.set]
        refine wpAnyH_take (i := 1) (v := .pointer (some ⟨b, 0, none⟩)) rfl (by kernel_rfl) (by kernel_rfl) (by kernel_rfl) (fun _ _ _ h => h) (Yields.yieldsIf (.inl ⟨by rfl, fun w => by rfl⟩)) lE ?_
        simp only [List.getElem_toArray, List.getElem_cons_succ, List.getElem_cons_zero, Act.put, List.setIfInBounds_toArray, List.set]
        refine wpAnyH_take (i := 2) (v := .pointer (some ⟨b, 3, none⟩)) rfl (by kernel_rfl) (by kernel_rfl) (by kernel_rfl) (fun _ _ _ h => h) (Yields.yieldsIf (.inl ⟨by rfl, fun w => by rfl⟩)) lE ?_
        simp only [List.getElem_toArray, List.getElem_cons_succ, List.getElem_cons_zero, Act.put, List.setIfInBounds_toArray, List.set]
        refine wpAnyH_take (i := 3) (v := .map (some m)) rfl (by kernel_rfl) (by kernel_rfl) (by kernel_rfl) (fun _ _ _ h => h) (.inl ⟨by rfl, fun w' hw' => exec_load1 rfl rfl (fun w => by kernel_rfl) (hw'.1)⟩) lE ?_
        simp only [List.getElem_toArray, List.getElem_cons_succ, List.getElem_cons_zero, Act.put, List.setIfInBounds_toArray, List.set]
        refine wpAnyH_take (i := 4) (v := .pointer (some ⟨C, 1, none⟩)) rfl (by kernel_rfl) (by kernel_rfl) (by kernel_rfl) (fun _ _ _ h => h) (Yields.yieldsIf (.inl ⟨by rfl, fun w => by rfl⟩)) lE ?_
        simp only [List.getElem_toArray, List.getElem_cons_succ, List.getElem_cons_zero, Act.put, List.setIfInBounds_toArray, List.set]
        refine wpAnyH_take (i := 5) (v := .int .i64 p2) rfl (by kernel_rfl) (by kernel_rfl) (by kernel_rfl) (fun _ _ _ h => h) (.inl ⟨by rfl, fun w' hw' => exec_load1 rfl rfl (fun w => by kernel_rfl) (hw'.2.2)⟩) lE ?_
        simp only [List.getElem_toArray, List.getElem_cons_succ, List.getElem_cons_zero, Act.put, List.setIfInBounds_toArray, List.set]
        refine wpAnyH_take (i := 6) (v := .pointer (some ⟨C, 0, none⟩)) rfl (by kernel_rfl) (by kernel_rfl) (by kernel_rfl) (fun _ _ _ h => h) (Yields.yieldsIf (.inl ⟨by rfl, fun w => by rfl⟩)) lE ?_
        simp only [List.getElem_toArray, List.getElem_cons_succ, List.getElem_cons_zero, Act.put, List.setIfInBounds_toArray, List.set]
        refine wpAnyH_take (i := 7) (v := .int .i64 p1) rfl (by kernel_rfl) (by kernel_rfl) (by kernel_rfl) (fun _ _ _ h => h) (.inl ⟨by rfl, fun w' hw' => exec_load1 rfl rfl (fun w => by kernel_rfl) (hw'.2.1)⟩) lE ?_
        simp only [List.getElem_toArray, List.getElem_cons_succ, List.getElem_cons_zero, Act.put, List.setIfInBounds_toArray, List.set]
        refine wpAnyH_take (i := 8) (v := .agg #[.int .i64 p2, .int .i64 p1]) rfl (by kernel_rfl) (by kernel_rfl) (by kernel_rfl) (fun _ _ _ h => h) (.inl ⟨by rfl, fun w' _ => exec_pair rfl rfl rfl w'⟩) lE ?_
        simp only [List.getElem_toArray, List.getElem_cons_succ, List.getElem_cons_zero, Act.put, List.setIfInBounds_toArray, List.set]
        obtain ⟨v0, st, o1, hrun1, ⟨M1, hT1, hM1⟩, hnext⟩ := hD2.tab.entry pair_keys Try.underlying87 (z := .int .i64 0) (fun w => by kernel_rfl) 0 rfl (p2, p1)
        have hlook0 := hD2.tab.look pair_keys Try.underlying87 (z := .int .i64 0) (fun w => by kernel_rfl) (p2, p1) false
        have hlook1 := hT1.look pair_keys Try.underlying87 (z := .int .i64 0) (fun w => by kernel_rfl) (p2, p1) false
        rw [look_gt, HG.out] at hlook0
        rw [look_gt, show gt M1 (p2, p1) = g by rw [gt, hM1, ← gt, HG.out]] at hlook1
        have hlt1 := hD2.tab.lt
        have hgm1 := grownBy_setMap (U := V.w) (m := m) o1
        obtain ⟨o2, hrun2, hT2⟩ := hnext (Tb.setMap V.w m o1) (g + 1) (Tb.setMap_same hlt1)
        have hgm2 := grownBy_setMap (U := Tb.setMap V.w m o1) (m := m) o2
        simp only [pairV, numV, goInt, Bool.false_eq_true, if_false] at hrun1 hrun2 hlook0 hlook1
        obtain ⟨U1, hU1⟩ : ∃ U1, Tb.setMap V.w m o1 = U1 := ⟨_, rfl⟩
        rw [hU1] at hrun1 hrun2 hlook1 hgm1 hT2 hgm2
        obtain ⟨U2, hU2⟩ : ∃ U2, Tb.setMap U1 m o2 = U2 := ⟨_, rfl⟩
        rw [hU2] at hrun2 hT2 hgm2
        have hgall := grown_trans hgm1 hgm2
        have hD3 := hD2.entered hgall hT2
        rw [show Tb.put (bump (meetsT (ms.take k)) (p1, p2)) (p2, p1) (g + 1) = bump (bump (meetsT (ms.take k)) (p1, p2)) (p2, p1) from bump_eq HG.out] at hD3
        have lE1 : U1.cell? ⟨b, 3, none⟩ = some (.map (some m)) ∧ U1.cell? ⟨C, 0, none⟩ = some (.int .i64 p1) ∧ U1.cell? ⟨C, 1, none⟩ = some (.int .i64 p2) := ⟨hgm1.cell lE.1 (by simp; exact hD2.ne), hgm1.cell lE.2.1 (by simp; exact HCM.out.symm), hgm1.cell lE.2.2 (by simp; exact HCM.out.symm)⟩
        have lE2 : U2.cell? ⟨b, 3, none⟩ = some (.map (some m)) ∧ U2.cell? ⟨C, 0, none⟩ = some (.int .i64 p1) ∧ U2.cell? ⟨C, 1, none⟩ = some (.int .i64 p2) := ⟨hgm2.cell lE1.1 (by simp; exact hD2.ne), hgm2.cell lE1.2.1 (by simp; exact HCM.out.symm), hgm2.cell lE1.2.2 (by simp; exact HCM.out.symm)⟩
        have ql2 : C < U2.heap.size := Nat.lt_of_lt_of_le ql (Nat.le_trans V.size hgall.size)
        obtain ⟨Y2, hY2⟩ : ∃ q : Later W, q.w = U2 := ⟨⟨U2, (Y.step V).le.trans (hD2.below (Y.step V).size (.inr hgall))⟩, rfl⟩
        have HLE := Lib.hid lE
        have HLE1 := Lib.hid lE1
        have HLE2 := Lib.hid lE2
        have HK0 := Lib.hid hlook0
        have HK1 := Lib.hid hlook1
        have HR1 := Lib.hid hrun1
        have HR2 := Lib.hid hrun2
        clear hU1 hU2 hT1 hM1 hnext hgm1 hgm2 hT2 hgall hlt1 lE lE1 lE2 hlook0 hlook1 hrun1 hrun2 hD1 q1 q2 ql
        refine wpAnyH_all (rs := [9, 11]) (by kernel_rfl) (by simp) (fun i hi => ?_)
        have hcases : i = 9 ∨ i = 11 := by simpa using hi
        clear hi
        rcases hcases with rfl | rfl
        · have hk := HK0.out
          refine wpOp_some rfl (by rfl) (fun K hK => ?_)
          simp only [List.getElem_toArray, List.getElem_cons_succ, List.getElem_cons_zero]
          go_wp2_with fail
          refine ⟨HLE.out, ?_⟩
          clear hk
          refine wpAnyH_take (i := 10) (v := .int .i64 (g + 1)) rfl (by kernel_rfl) (by kernel_rfl) (by kernel_rfl) (fun _ _ _ h => h) (.inl ⟨by rfl, fun w' _ => exec_inc rfl rfl rfl hgb w'⟩) HLE.out ?_
          simp only [List.getElem_toArray, List.getElem_cons_succ, List.getElem_cons_zero, Act.put, List.setIfInBounds_toArray, List.set]
          have hk := HR1.out
          refine wpAnyH_all (rs := [11]) (by kernel_rfl) (by simp) (fun i hi => ?_)
          obtain rfl : i = 11 := by simpa using hi
          clear hi
          refine wpOp_some rfl (by rfl) (fun K hK => ?_)
          simp only [List.getElem_toArray, List.getElem_cons_succ, List.getElem_cons_zero]
          go_wp2_with fail
          refine ⟨HLE1.out, ?_⟩
          clear hk
          refine wpAnyH_take (i := 12) (v := .int .i64 (st : Int)) rfl (by kernel_rfl) (by kernel_rfl) (by kernel_rfl) (fun _ _ _ h => h) (Yields.yieldsIf (.inl ⟨by rfl, fun w => by rfl⟩)) HLE1.out ?_
          simp only [List.getElem_toArray, List.getElem_cons_succ, List.getElem_cons_zero, Act.put, List.setIfInBounds_toArray, List.set]
          have hk := HR2.out
          refine wpAnyH_all (rs := [13]) (by kernel_rfl) (by simp) (fun i hi => ?_)
          obtain rfl : i = 13 := by simpa using hi
          clear hi
          refine wpOp_some rfl (by rfl) (fun K hK => ?_)
          simp only [List.getElem_toArray, List.getElem_cons_succ, List.getElem_cons_zero]
          go_wp2_with fail
          refine ⟨HLE2.out, wpAnyH_done (by kernel_rfl) ?_ _⟩
          clear hk
          rw [← hY2] at hD3 HLE2 ql2 ⊢
          have q1 := HLE2.out.2.1
          have q2 := HLE2.out.2.2
          clear hY2 HLE HLE1 HLE2 HK0 HK1 HR1 HR2 hD2 V Y U2 U1
          go_wp2_with fail
          go_roundw
          case rel => exact ⟨k + 1, Y2, rfl, by omega, by go_num, by rw [HSN.out, HPR.out]; exact hD3⟩
          case measure => simp [intOf]; omega
        · have hk := HR1.out
          refine wpOp_some rfl (by rfl) (fun K hK => ?_)
          simp only [List.getElem_toArray, List.getElem_cons_succ, List.getElem_cons_zero]
          go_wp2_with fail
          refine ⟨HLE1.out, ?_⟩
          clear hk
          refine wpAnyH_take (i := 12) (v := .int .i64 (st : Int)) rfl (by kernel_rfl) (by kernel_rfl) (by kernel_rfl) (fun _ _ _ h => h) (Yields.yieldsIf (.inl ⟨by rfl, fun w => by rfl⟩)) HLE1.out ?_
          simp only [List.getElem_toArray, List.getElem_cons_succ, List.getElem_cons_zero, Act.put, List.setIfInBounds_toArray, List.set]
          have hk := HK1.out
          refine wpAnyH_all (rs := [9]) (by kernel_rfl) (by simp) (fun i hi => ?_)
          obtain rfl : i = 9 := by simpa using hi
          clear hi
          refine wpOp_some rfl (by rfl) (fun K hK => ?_)
          simp only [List.getElem_toArray, List.getElem_cons_succ, List.getElem_cons_zero]
          go_wp2_with fail
          refine ⟨HLE1.out, ?_⟩
          clear hk
          refine wpAnyH_take (i := 10) (v := .int .i64 (g + 1)) rfl (by kernel_rfl) (by kernel_rfl) (by kernel_rfl) (fun _ _ _ h => h) (.inl ⟨by rfl, fun w' _ => exec_inc rfl rfl rfl hgb w'⟩) HLE1.out ?_
          simp only [List.getElem_toArray, List.getElem_cons_succ, List.getElem_cons_zero, Act.put, List.setIfInBounds_toArray, List.set]
          have hk := HR2.out
          refine wpAnyH_all (rs := [13]) (by kernel_rfl) (by simp) (fun i hi => ?_)
          obtain rfl : i = 13 := by simpa using hi
          clear hi
          refine wpOp_some rfl (by rfl) (fun K hK => ?_)
          simp only [List.getElem_toArray, List.getElem_cons_succ, List.getElem_cons_zero]
          go_wp2_with fail
          refine ⟨HLE2.out, wpAnyH_done (by kernel_rfl) ?_ _⟩
          clear hk
          rw [← hY2] at hD3 HLE2 ql2 ⊢
          have q1 := HLE2.out.2.1
          have q2 := HLE2.out.2.2
          clear hY2 HLE HLE1 HLE2 HK0 HK1 HR1 HR2 hD2 V Y U2 U1
          go_wp2_with fail
          go_roundw
          case rel => exact ⟨k + 1, Y2, rfl, by omega, by go_num, by rw [HSN.out, HPR.out]; exact hD3⟩
          case measure => simp [intOf]; omega
      · have hk := HR1.out
        refine wpOp_some rfl (by rfl) (fun K hK => ?_)
        simp only [List.getElem_toArray, List.getElem_cons_succ, List.getElem_cons_zero]
        go_wp2_with fail
        refine ⟨HLE1.out, ?_⟩
        clear hk
        refine wpAnyH_take (i := 12) (v := .int .i64 (st : Int)) rfl (by kernel_rfl) (by kernel_rfl) (by kernel_rfl) (fun _ _ _ h => h) (Yields.yieldsIf (.inl ⟨by rfl, fun w => by rfl⟩)) HLE1.out ?_
        simp only [List.getElem_toArray, List.getElem_cons_succ, List.getElem_cons_zero, Act.put, List.setIfInBounds_toArray, List.set]
        have hk := HK1.out
        refine wpAnyH_all (rs := [9]) (by kernel_rfl) (by simp) (fun i hi => ?_)
        obtain rfl : i = 9 := by simpa using hi
        clear hi
        refine wpOp_some rfl (by rfl) (fun K hK => ?_)
        simp only [List.getElem_toArray, List.getElem_cons_succ, List.getElem_cons_zero]
        go_wp2_with fail
        refine ⟨HLE1.out, ?_⟩
        clear hk
        refine wpAnyH_take (i := 10) (v := .int .i64 (g + 1)) rfl (by kernel_rfl) (by kernel_rfl) (by kernel_rfl) (fun _ _ _ h => h) (.inl ⟨by rfl, fun w' _ => exec_inc rfl rfl rfl hgb w'⟩) HLE1.out ?_
        simp only [List.getElem_toArray, List.getElem_cons_succ, List.getElem_cons_zero, Act.put, List.setIfInBounds_toArray, List.set]
        have hk := HR2.out
        refine wpAnyH_all (rs := [13]) (by kernel_rfl) (by simp) (fun i hi => ?_)
        obtain rfl : i = 13 := by simpa using hi
        clear hi
        refine wpOp_some rfl (by rfl) (fun K hK => ?_)
        simp only [List.getElem_toArray, List.getElem_cons_succ, List.getElem_cons_zero]
        go_wp2_with fail
        refine ⟨HLE2.out, wpAnyH_done (by kernel_rfl) ?_ _⟩
        clear hk
        rw [← hY2] at hD3 HLE2 ql2 ⊢
        have q1 := HLE2.out.2.1
        have q2 := HLE2.out.2.2
        clear hY2 HLE HLE1 HLE2 HK0 HK1 HR1 HR2 hD2 V Y U2 U1
        clear HG hgb
        have hD1 := hD3
        have ql := ql2
        clear hD3 ql2
        obtain ⟨Y, rfl⟩ : ∃ Y, Y = Y2 := ⟨_, rfl⟩
        go_wp2_with fail
        have hlook := hD1.tab.look pair_keys Try.underlying87 (z := .int .i64 0) (fun w => by kernel_rfl) (p2, p1) false
        obtain ⟨g, hg⟩ : ∃ g, gt (bump (meetsT (ms.take k)) (p1, p2)) (p2, p1) = g := ⟨_, rfl⟩
        have HG := Lib.hid hg
        have hgb : 0 ≤ g ∧ g ≤ 100 := by rw [← hg]; exact (by have := gt_bound (ms.take k) (p2, p1); rw [List.length_take] at this; have h2 := gt_bump_le (meetsT (ms.take k)) (p1, p2) (p2, p1) (B := 80) (by omega); omega)
        clear hg
        refine wp_region_held (S := fun w' => w'.cell? ⟨b, 3, none⟩ = some (.map (some m)) ∧ w'.cell? ⟨C, 0, none⟩ = some (.int .i64 p1) ∧ w'.cell? ⟨C, 1, none⟩ = some (.int .i64 p2)) (by kernel_rfl) ?_
        show wpAnyH _ _ _ _ _ _ _ _ Y.w.drew
        obtain ⟨V, hV⟩ : ∃ V : Later Y.w, V.w = Y.w.drew := ⟨Later.draw Y.w, rfl⟩
        rw [← hV]
        have lE : V.w.cell? ⟨b, 3, none⟩ = some (.map (some m)) ∧ V.w.cell? ⟨C, 0, none⟩ = some (.int .i64 p1) ∧ V.w.cell? ⟨C, 1, none⟩ = some (.int .i64 p2) := ⟨(V.cell hD1.lt).trans hD1.c3, (V.cell ql).trans q1, (V.cell ql).trans q2⟩
        have hD2 := hD1.later V
        clear hV hlook
        refine wpAnyH_take (i := 0) (v := .pointer (some ⟨b, 0, none⟩)) rfl (by kernel_rfl) (by kernel_rfl) (by kernel_rfl) (fun _ _ _ h => h) (Yields.yieldsIf (.inl ⟨by rfl, fun w => by rfl⟩)) lE ?_
        simp only [List.getElem_toArray, List.getElem_cons_zero, Act.put, List.setIfInBounds_toArray, List.set]
        refine wpAnyH_take (i := 1) (v := .pointer (some ⟨b, 0, none⟩)) rfl (by kernel_rfl) (by kernel_rfl) (by kernel_rfl) (fun _ _ _ h => h) (Yields.yieldsIf (.inl ⟨by rfl, fun w => by rfl⟩)) lE ?_
        simp only [List.getElem_toArray, List.getElem_cons_succ, List.getElem_cons_zero, Act.put, List.setIfInBounds_toArray, List.set]
        refine wpAnyH_take (i := 2) (v := .pointer (some ⟨b, 3, none⟩)) rfl (by kernel_rfl) (by kernel_rfl) (by kernel_rfl) (fun _ _ _ h => h) (Yields.yieldsIf (.inl ⟨by rfl, fun w => by rfl⟩)) lE ?_
        simp only [List.getElem_toArray, List.getElem_cons_succ, List.getElem_cons_zero, Act.put, List.setIfInBounds_toArray, List.set]
        refine wpAnyH_take (i := 3) (v := .map (some m)) rfl (by kernel_rfl) (by kernel_rfl) (by kernel_rfl) (fun _ _ _ h => h) (.inl ⟨by rfl, fun w' hw' => exec_load1 rfl rfl (fun w => by kernel_rfl) (hw'.1)⟩) lE ?_
        simp only [List.getElem_toArray, List.getElem_cons_succ, List.getElem_cons_zero, Act.put, List.setIfInBounds_toArray, List.set]
        refine wpAnyH_take (i := 4) (v := .pointer (some ⟨C, 1, none⟩)) rfl (by kernel_rfl) (by kernel_rfl) (by kernel_rfl) (fun _ _ _ h => h) (Yields.yieldsIf (.inl ⟨by rfl, fun w => by rfl⟩)) lE ?_
        simp only [List.getElem_toArray, List.getElem_cons_succ, List.getElem_cons_zero, Act.put, List.setIfInBounds_toArray, List.set]
        refine wpAnyH_take (i := 5) (v := .int .i64 p2) rfl (by kernel_rfl) (by kernel_rfl) (by kernel_rfl) (fun _ _ _ h => h) (.inl ⟨by rfl, fun w' hw' => exec_load1 rfl rfl (fun w => by kernel_rfl) (hw'.2.2)⟩) lE ?_
        simp only [List.getElem_toArray, List.getElem_cons_succ, List.getElem_cons_zero, Act.put, List.setIfInBounds_toArray, List.set]
        refine wpAnyH_take (i := 6) (v := .pointer (some ⟨C, 0, none⟩)) rfl (by kernel_rfl) (by kernel_rfl) (by kernel_rfl) (fun _ _ _ h => h) (Yields.yieldsIf (.inl ⟨by rfl, fun w => by rfl⟩)) lE ?_
        simp only [List.getElem_toArray, List.getElem_cons_succ, List.getElem_cons_zero, Act.put, List.setIfInBounds_toArray, List.set]
        refine wpAnyH_take (i := 7) (v := .int .i64 p1) rfl (by kernel_rfl) (by kernel_rfl) (by kernel_rfl) (fun _ _ _ h => h) (.inl ⟨by rfl, fun w' hw' => exec_load1 rfl rfl (fun w => by kernel_rfl) (hw'.2.1)⟩) lE ?_
        simp only [List.getElem_toArray, List.getElem_cons_succ, List.getElem_cons_zero, Act.put, List.setIfInBounds_toArray, List.set]
        refine wpAnyH_take (i := 8) (v := .agg #[.int .i64 p2, .int .i64 p1]) rfl (by kernel_rfl) (by kernel_rfl) (by kernel_rfl) (fun _ _ _ h => h) (.inl ⟨by rfl, fun w' _ => exec_pair rfl rfl rfl w'⟩) lE ?_
        simp only [List.getElem_toArray, List.getElem_cons_succ, List.getElem_cons_zero, Act.put, List.setIfInBounds_toArray, List.set]
        obtain ⟨v0, st, o1, hrun1, ⟨M1, hT1, hM1⟩, hnext⟩ := hD2.tab.entry pair_keys Try.underlying87 (z := .int .i64 0) (fun w => by kernel_rfl) 0 rfl (p2, p1)
        have hlook0 := hD2.tab.look pair_keys Try.underlying87 (z := .int .i64 0) (fun w => by kernel_rfl) (p2, p1) false
        have hlook1 := hT1.look pair_keys Try.underlying87 (z := .int .i64 0) (fun w => by kernel_rfl) (p2, p1) false
        rw [look_gt, HG.out] at hlook0
        rw [look_gt, show gt M1 (p2, p1) = g by rw [gt, hM1, ← gt, HG.out]] at hlook1
        have hlt1 := hD2.tab.lt
        have hgm1 := grownBy_setMap (U := V.w) (m := m) o1
        obtain ⟨o2, hrun2, hT2⟩ := hnext (Tb.setMap V.w m o1) (g + 1) (Tb.setMap_same hlt1)
        have hgm2 := grownBy_setMap (U := Tb.setMap V.w m o1) (m := m) o2
        simp only [pairV, numV, goInt, Bool.false_eq_true, if_false] at hrun1 hrun2 hlook0 hlook1
        obtain ⟨U1, hU1⟩ : ∃ U1, Tb.setMap V.w m o1 = U1 := ⟨_, rfl⟩
        rw [hU1] at hrun1 hrun2 hlook1 hgm1 hT2 hgm2
        obtain ⟨U2, hU2⟩ : ∃ U2, Tb.setMap U1 m o2 = U2 := ⟨_, rfl⟩
        rw [hU2] at hrun2 hT2 hgm2
        have hgall := grown_trans hgm1 hgm2
        have hD3 := hD2.entered hgall hT2
        rw [show Tb.put (bump (meetsT (ms.take k)) (p1, p2)) (p2, p1) (g + 1) = bump (bump (meetsT (ms.take k)) (p1, p2)) (p2, p1) from bump_eq HG.out] at hD3
        have lE1 : U1.cell? ⟨b, 3, none⟩ = some (.map (some m)) ∧ U1.cell? ⟨C, 0, none⟩ = some (.int .i64 p1) ∧ U1.cell? ⟨C, 1, none⟩ = some (.int .i64 p2) := ⟨hgm1.cell lE.1 (by simp; exact hD2.ne), hgm1.cell lE.2.1 (by simp; exact HCM.out.symm), hgm1.cell lE.2.2 (by simp; exact HCM.out.symm)⟩
        have lE2 : U2.cell? ⟨b, 3, none⟩ = some (.map (some m)) ∧ U2.cell? ⟨C, 0, none⟩ = some (.int .i64 p1) ∧ U2.cell? ⟨C, 1, none⟩ = some (.int .i64 p2) := ⟨hgm2.cell lE1.1 (by simp; exact hD2.ne), hgm2.cell lE1.2.1 (by simp; exact HCM.out.symm), hgm2.cell lE1.2.2 (by simp; exact HCM.out.symm)⟩
        have ql2 : C < U2.heap.size := Nat.lt_of_lt_of_le ql (Nat.le_trans V.size hgall.size)
        obtain ⟨Y2, hY2⟩ : ∃ q : Later W, q.w = U2 := ⟨⟨U2, (Y.step V).le.trans (hD2.below (Y.step V).size (.inr hgall))⟩, rfl⟩
        have HLE := Lib.hid lE
        have HLE1 := Lib.hid lE1
        have HLE2 := Lib.hid lE2
        have HK0 := Lib.hid hlook0
        have HK1 := Lib.hid hlook1
        have HR1 := Lib.hid hrun1
        have HR2 := Lib.hid hrun2
        clear hU1 hU2 hT1 hM1 hnext hgm1 hgm2 hT2 hgall hlt1 lE lE1 lE2 hlook0 hlook1 hrun1 hrun2 hD1 q1 q2 ql
        refine wpAnyH_all (rs := [9, 11]) (by kernel_rfl) (by simp) (fun i hi => ?_)
        have hcases : i = 9 ∨ i = 11 := by simpa using hi
        clear hi
        rcases hcases with rfl | rfl
        · have hk := HK0.out
          refine wpOp_some rfl (by rfl) (fun K hK => ?_)
          simp only [List.getElem_toArray, List.getElem_cons_succ, List.getElem_cons_zero]
          go_wp2_with fail
          refine ⟨HLE.out, ?_⟩
          clear hk
          refine wpAnyH_take (i := 10) (v := .int .i64 (g + 1)) rfl (by kernel_rfl) (by kernel_rfl) (by kernel_rfl) (fun _ _ _ h => h) (.inl ⟨by rfl, fun w' _ => exec_inc rfl rfl rfl hgb w'⟩) HLE.out ?_
          simp only [List.getElem_toArray, List.getElem_cons_succ, List.getElem_cons_zero, Act.put, List.setIfInBounds_toArray, List.set]
          have hk := HR1.out
          refine wpAnyH_all (rs := [11]) (by kernel_rfl) (by simp) (fun i hi => ?_)
          obtain rfl : i = 11 := by simpa using hi
          clear hi
          refine wpOp_some rfl (by rfl) (fun K hK => ?_)
          simp only [List.getElem_toArray, List.getElem_cons_succ, List.getElem_cons_zero]
          go_wp2_with fail
          refine ⟨HLE1.out, ?_⟩
          clear hk
          refine wpAnyH_take (i := 12) (v := .int .i64 (st : Int)) rfl (by kernel_rfl) (by kernel_rfl) (by kernel_rfl) (fun _ _ _ h => h) (Yields.yieldsIf (.inl ⟨by rfl, fun w => by rfl⟩)) HLE1.out ?_
          simp only [List.getElem_toArray, List.getElem_cons_succ, List.getElem_cons_zero, Act.put, List.setIfInBounds_toArray, List.set]
          have hk := HR2.out
          refine wpAnyH_all (rs := [13]) (by kernel_rfl) (by simp) (fun i hi => ?_)
          obtain rfl : i = 13 := by simpa using hi
          clear hi
          refine wpOp_some rfl (by rfl) (fun K hK => ?_)
          simp only [List.getElem_toArray, List.getElem_cons_succ, List.getElem_cons_zero]
          go_wp2_with fail
          refine ⟨HLE2.out, wpAnyH_done (by kernel_rfl) ?_ _⟩
          clear hk
          rw [← hY2] at hD3 HLE2 ql2 ⊢
          have q1 := HLE2.out.2.1
          have q2 := HLE2.out.2.2
          clear hY2 HLE HLE1 HLE2 HK0 HK1 HR1 HR2 hD2 V Y U2 U1
          go_wp2_with fail
          go_roundw
          case rel => exact ⟨k + 1, Y2, rfl, by omega, by go_num, by rw [HSN.out, HPR.out]; exact hD3⟩
          case measure => simp [intOf]; omega
        · have hk := HR1.out
          refine wpOp_some rfl (by rfl) (fun K hK => ?_)
          simp only [List.getElem_toArray, List.getElem_cons_succ, List.getElem_cons_zero]
          go_wp2_with fail
          refine ⟨HLE1.out, ?_⟩
          clear hk
          refine wpAnyH_take (i := 12) (v := .int .i64 (st : Int)) rfl (by kernel_rfl) (by kernel_rfl) (by kernel_rfl) (fun _ _ _ h => h) (Yields.yieldsIf (.inl ⟨by rfl, fun w => by rfl⟩)) HLE1.out ?_
          simp only [List.getElem_toArray, List.getElem_cons_succ, List.getElem_cons_zero, Act.put, List.setIfInBounds_toArray, List.set]
          have hk := HK1.out
          refine wpAnyH_all (rs := [9]) (by kernel_rfl) (by simp) (fun i hi => ?_)
          obtain rfl : i = 9 := by simpa using hi
          clear hi
          refine wpOp_some rfl (by rfl) (fun K hK => ?_)
          simp only [List.getElem_toArray, List.getElem_cons_succ, List.getElem_cons_zero]
          go_wp2_with fail
          refine ⟨HLE1.out, ?_⟩
          clear hk
          refine wpAnyH_take (i := 10) (v := .int .i64 (g + 1)) rfl (by kernel_rfl) (by kernel_rfl) (by kernel_rfl) (fun _ _ _ h => h) (.inl ⟨by rfl, fun w' _ => exec_inc rfl rfl rfl hgb w'⟩) HLE1.out ?_
          simp only [List.getElem_toArray, List.getElem_cons_succ, List.getElem_cons_zero, Act.put, List.setIfInBounds_toArray, List.set]
          have hk := HR2.out
          refine wpAnyH_all (rs := [13]) (by kernel_rfl) (by simp) (fun i hi => ?_)
          obtain rfl : i = 13 := by simpa using hi
          clear hi
          refine wpOp_some rfl (by rfl) (fun K hK => ?_)
          simp only [List.getElem_toArray, List.getElem_cons_succ, List.getElem_cons_zero]
          go_wp2_with fail
          refine ⟨HLE2.out, wpAnyH_done (by kernel_rfl) ?_ _⟩
          clear hk
          rw [← hY2] at hD3 HLE2 ql2 ⊢
          have q1 := HLE2.out.2.1
          have q2 := HLE2.out.2.2
          clear hY2 HLE HLE1 HLE2 HK0 HK1 HR1 HR2 hD2 V Y U2 U1
          go_wp2_with fail
          go_roundw
          case rel => exact ⟨k + 1, Y2, rfl, by omega, by go_num, by rw [HSN.out, HPR.out]; exact hD3⟩
          case measure => simp [intOf]; omega
    · obtain rfl : lm = k := by omega
      have e : meetsT (ms.take lm) = meetsT ms := by rw [HLM.out, List.take_length]
      rw [e] at hD
      have d2 := hD.c2
      have hlc : lc ≤ 20 := by rw [HLC.out, ← HCS.out, List.length_map]; exact hcl
      clear e hk hlt
      go_wp2
      clear d2 hbl
      go_loopw [60] (fun i wr => ∃ (k : Nat) (u : Later W), wr = u.w ∧ k ≤ lc ∧ i = .int .i64 k ∧ DeskB W.heap.size u.w b m n (.slice am lm cm) (.slice ac lc cc) (.slice none 0 0) (meetsT ms) (coverA (cs.take k))) (fun i _ => lc - (intOf i).toNat)
      case atStart => exact ⟨0, u, rfl, Nat.zero_le _, rfl, hD⟩
      case round =>
        clear hD u
        obtain ⟨k, u, rfl, hk, rfl, hD⟩ := hrel
        by_cases hlt : k < lc
        · obtain ⟨bm, om, km, e, hkm, hbm, hgm⟩ := hs.c.at (k := k) (by rw [← HLC.out]; exact hlt)
          injection e with e1 e2 e3
          subst e1
          have hkc : k < cn.length := by rw [← List.length_map (f := fun (c : Nat) => (c : Int)), HCS.out, ← HLC.out]; exact hlt
          have m1 := (u.cell hbm).trans (hgm k (by rw [← HLC.out]; exact hlt))
          have ml := Nat.lt_of_lt_of_le hbm u.size
          have HSN := Lib.hid (coverA_snoc cs k (by rw [← HLC.out]; exact hlt))
          obtain ⟨P, hP⟩ : ∃ P, cn[k] = P := ⟨_, rfl⟩
          have hP20 : P < 20 := by have := HCR.out _ (List.getElem_mem hkc); omega
          have hPe : nth cs k = (P : Int) := by rw [← HCS.out, nth_eq (by simpa using hkc)]; simp [hP]
          rw [hPe] at m1
          have hgb := coverA_gt (cn.take k) (fun c hc => by have := HCR.out c (List.mem_of_mem_take hc); omega) P
          rw [show ((cn.take k).map fun (c : Nat) => (c : Int)) = cs.take k by rw [← HCS.out, List.map_take]] at hgb
          obtain ⟨g, hg⟩ : ∃ g, nth (coverA (cs.take k)) P = g := ⟨_, rfl⟩
          rw [hg] at hgb
          have hg20 : 0 ≤ g ∧ g ≤ 20 := ⟨hgb.1, by have := hgb.2.2; rw [List.length_take] at this; omega⟩
          have HG := Lib.hid (show coverA (cs.take (k + 1)) = (coverA (cs.take k)).set P (g + 1) by rw [HSN.out, hPe, Int.toNat_natCast, hg])
          have dc := hD.cc hP20
          rw [hg] at dc
          have dl := hD.lt
          clear hgm hkm e2 e3 hP hPe hgb hg HSN hkc
          go_wp2_with fail
          refine Mix.region_mixL (Mix.kinds [] [] [10]) (by kernel_rfl) (by kernel_rfl) ?_
          repeat ((with_reducible refine Mix.atCons ?_); first | refine Mix.skipU (by rfl) rfl (by rfl) ?_ | (refine Mix.val rfl rfl (by rfl) (fun K hK => ?_); go_big_quiet_op; refine hK _ ?_; clear hK K) | (refine Mix.skip (by rfl) ?_; go_frame))
          refine Mix.last rfl (by rfl) (fun x1 K hK => ?_)
          have dc' := (x1.cell dl).trans dc
          have df := (hD.later x1).blk.frozen (4 + P)
          have dl' := Nat.lt_of_lt_of_le dl x1.size
          obtain ⟨hD2, hgr⟩ := (hD.later x1).cover hP20 (g + 1)
          have HD2 := Lib.hid hD2
          have HGR := Lib.hid hgr
          have HBL := Lib.hid ((hD.later x1).below (u.step x1).size (.inl hgr))
          clear hD2 hgr hD
          go_wp2_with fail
          refine Mix.done (fun x2 => ?_)
          clear dc dc' df dl dl'
          go_wp2
          go_roundw
          case rel => exact ⟨k + 1, ⟨x2.w, ((u.step x1).le.trans HBL.out).trans (x2.le.mono ((u.step x1).le.trans HBL.out).size)⟩, rfl, by omega, by go_num, by rw [HG.out]; exact HD2.out.later x2⟩
          case measure => simp [intOf]; omega
        · obtain rfl : lc = k := by omega
          have e : coverA (cs.take lc) = coverA cs := by rw [HLC.out, List.take_length]
          rw [e] at hD
          have d0 := hD.c0
          have hbl := hD.lt
          clear e hk hlt
          go_wp2
          clear d0 hbl
          go_loopw [80] (fun i wr => ∃ (k : Nat) (u : Later W) (nv : Value), wr = u.w ∧ k ≤ n ∧ i = .int .i64 k ∧ DeskB W.heap.size u.w b m n (.slice am lm cm) (.slice ac lc cc) nv (meetsT ms) (coverA cs) ∧ IntsM W.heap.size u.w nv ((List.range k).map fun (k : Nat) => (k : Int))) (fun i _ => n - (intOf i).toNat)
          case atStart => exact ⟨0, u, _, rfl, Nat.zero_le _, rfl, hD, by simpa using IntsM.nil _ _⟩
          case round =>
            clear hD u
            obtain ⟨k, u, nv, rfl, hk, rfl, hD, hN⟩ := hrel
            by_cases hlt : k < n
            · obtain ⟨an, ln, cn', rfl⟩ := hN.form'
              have hne := hN.ne_desk hD
              obtain ⟨v', q, hrun, hN2, hgr⟩ := app_int_stepM (W := W) u.le hN (k : Int) (by simp; omega) 23
              obtain ⟨a', n', c', rfl⟩ := hN2.form'
              have hD2 := hD.kept hgr hne.1 hne.2
              have hne2 := hN2.ne_desk hD2
              obtain ⟨hD3, hgr3⟩ := hD2.names (.slice a' n' c')
              have hN3 := hN2.kept hgr3 (.inr (fun e => hne2.1 e.symm))
              obtain ⟨Y, hY⟩ : ∃ Y : Later W, Y.w = q.w.setCell ⟨b, 24, none⟩ (.slice a' n' c') := ⟨⟨_, q.le.trans (hD2.below q.size (.inl hgr3))⟩, rfl⟩
              have d24 := hD.c24
              have dl := hD.lt
              have e24 := hD2.c24
              have el := hD2.lt
              have ef := hD2.blk.frozen 24
              have HR := Lib.hid hrun
              have hN4 : IntsM W.heap.size (q.w.setCell ⟨b, 24, none⟩ (.slice a' n' c')) (.slice a' n' c') ((List.range (k + 1)).map fun (k : Nat) => (k : Int)) := by rw [List.range_succ, List.map_append]; exact hN3
              have HD := Lib.hid hD3
              have HN := Lib.hid hN4
              clear hrun hD hN hN2 hgr hD2 hne2 hgr3 hN3 hN4 hD3 hne
              go_wp2_with ((with_reducible show wpList _ _ _ (⟨some 90, _, _, _, _, _⟩ :: _) _ _); refine Lib.wpList_append_run_sl _ rfl _ _ 23 rfl _ _ rfl rfl HR.out ?_)
              go_roundw
              case rel => exact ⟨k + 1, Y, _, hY.symm, by omega, by go_num, by rw [hY]; exact HD.out, by rw [hY]; exact HN.out⟩
              case measure => simp [intOf]; omega
            · obtain rfl : n = k := by omega
              go_wp2
              go_ret
              exact ⟨b, m, nv, u, rfl, rfl, hD, hN.ints (by simp; omega)⟩

end Go.Proofs.Ytdhdpbnlhnodjaa

/-  The library's Index, Contains; the program's keep. -/
namespace Go.Proofs.Ytdhdpbnlhnodjaa
open Go.RowKit

set_option maxHeartbeats 400000 in
theorem Index_calls (v : Value) (xs : List Int) (n : Int) (w : World) (hx : Ints w v xs) :
    Calls Try.prog 83 #[v, .int .i64 n] w fun e w' => e = .returned (.int .i64 (idxF (fun x => x == n) xs 0)) ∧ w' = w := by
  have hl := hx.1
  obtain ⟨av, lv, cv, rfl⟩ : ∃ a n c, v = .slice a n c := by obtain ⟨a, c, e⟩ := hx.form; exact ⟨a, _, c, e⟩
  have HL := Lib.hid (show lv = xs.length by obtain ⟨a, c, e⟩ := hx.form; cases e; rfl)
  have hl2 : lv ≤ 9007199254740992 := by rw [HL.out]; exact hl
  go_enter Try.func83, Try.ntmps83
  go_wp2
  go_loopw [8] (fun i wr => ∃ k : Nat, wr = w ∧ k ≤ lv ∧ i = .int .i64 k ∧ Hid (idxF (fun x => x == n) xs 0 = idxF (fun x => x == n) (xs.drop k) k)) (fun i _ => lv - (intOf i).toNat)
  case atStart => exact ⟨0, rfl, Nat.zero_le _, rfl, rfl⟩
  case round =>
    obtain ⟨k, rfl, hk, rfl, hp⟩ := hrel
    by_cases hlt : k < lv
    · obtain ⟨bm, om, km, e, hkm, hbm, hgm⟩ := hx.at (k := k) (by rw [← HL.out]; exact hlt)
      injection e with e1 e2 e3
      subst e1
      have m1 := hgm k (by rw [← HL.out]; exact hlt)
      have hs := Lib.hid (idxF_at (fun x => x == n) xs k (by rw [← HL.out]; exact hlt))
      obtain ⟨p, hp'⟩ : ∃ p, nth xs k = p := ⟨_, rfl⟩
      rw [hp'] at m1 hs
      clear hgm hkm e2 e3 hp'
      by_cases he : n = p
      · have hs2 := Lib.hid (show idxF (fun x => x == n) (xs.drop k) k = k by rw [hs.out, if_pos (by simpa using he.symm)])
        go_wp2
        go_ret
        exact ⟨ret_int (by rw [hp.out, hs2.out]), rfl⟩
      · have hs2 := Lib.hid (show idxF (fun x => x == n) (xs.drop k) k = idxF (fun x => x == n) (xs.drop (k + 1)) (k + 1) by rw [hs.out, if_neg (by simpa using fun e => he e.symm)])
        go_wp2
        go_roundw
        case rel => exact ⟨k + 1, trivial, by omega, by go_num, by unfold Hid; rw [hp.out, hs2.out]⟩
        case measure => simp [intOf]; omega
    · have hs := Lib.hid (idxF_end (fun x => x == n) xs k (by rw [← HL.out]; omega))
      go_wp2
      go_ret
      exact ⟨ret_int (by rw [hp.out, hs.out]), rfl⟩
set_option maxHeartbeats 400000 in
theorem Contains_calls (v : Value) (xs : List Int) (n : Int) (w : World) (hx : Ints w v xs) :
    Calls Try.prog 63 #[v, .int .i64 n] w fun e w' => e = .returned (.bool (hasB xs n)) ∧ w' = w := by
  have h := Lib.hid (show decide (0 ≤ idxF (fun x => x == n) xs 0) = hasB xs n from idxF_any (fun x => x == n) xs)
  go_enter Try.func63, Try.ntmps63
  go_wp2_with (go_at_call 83; (with_reducible refine (Index_calls _ xs n _ hx).mono ?_); rintro e w' ⟨rfl, rfl⟩)
  go_ret
  exact ⟨ret_bool h.out, rfl⟩
end Go.Proofs.Ytdhdpbnlhnodjaa

/-  The program: keep. -/
namespace Go.Proofs.Ytdhdpbnlhnodjaa
open Go.RowKit

/-- both names of a pair are kept -/
def keepB (xs : List Int) (q : PK) : Bool := hasB xs (q.1 / 2) && hasB xs (q.2 / 2)
def keepM (xs : List Int) (M : PM) : PM := M.filter fun q => keepB xs q.1
/-- what is left of the table when the keys S have come -/
def keepS (xs : List Int) (M : PM) (S : List PK) : PM := M.filter fun q => keepB xs q.1 || decide (q.1 ∉ S)
def leftS (M : PM) (S : List PK) : Nat := (M.filter (fun q => decide (q.1 ∉ S))).length
theorem keepS_nil (xs : List Int) (M : PM) : keepS xs M [] = M := by simp [keepS]
theorem keepS_del {xs : List Int} {M : PM} {S : List PK} {p : PK × Int} (ha : keepB xs p.1 = false) : Tb.del (keepS xs M S) p.1 = keepS xs M (p.1 :: S) := by
  unfold Tb.del keepS
  rw [List.filter_filter]
  refine List.filter_congr fun q _ => ?_
  by_cases h : q.1 = p.1
  · simp [h, ha]
  · simp [h]
theorem keepS_stay {xs : List Int} {M : PM} {S : List PK} {p : PK × Int} (ha : keepB xs p.1 = true) : keepS xs M S = keepS xs M (p.1 :: S) := by
  unfold keepS
  refine List.filter_congr fun q _ => ?_
  by_cases h : q.1 = p.1
  · simp [h, ha]
  · simp [h]
theorem keepS_end {xs : List Int} {M : PM} {S : List PK} (h : ∀ q ∈ keepS xs M S, q.1 ∈ S) : keepS xs M S = keepM xs M := by
  unfold keepS keepM at *
  refine List.filter_congr fun q hq => ?_
  cases h0 : keepB xs q.1
  · by_cases hs : q.1 ∈ S
    · simp [hs]
    · exact absurd (h q (List.mem_filter.2 ⟨hq, by simp [hs]⟩)) hs
  · simp
theorem leftS_lt {M : PM} {S : List PK} {p : PK × Int} (hp : p ∈ M) (hs : p.1 ∉ S) : leftS M (p.1 :: S) < leftS M S := by
  unfold leftS
  have e : M.filter (fun q => decide (q.1 ∉ p.1 :: S)) = (M.filter (fun q => decide (q.1 ∉ S))).filter (fun q => decide (q.1 ≠ p.1)) := by
    rw [List.filter_filter]
    refine List.filter_congr fun q _ => ?_
    simp
  rw [e]
  have hm : p ∈ M.filter (fun q => decide (q.1 ∉ S)) := List.mem_filter.2 ⟨hp, by simpa using hs⟩
  exact List.length_filter_lt_length_iff_exists.2 ⟨p, hm, by simp⟩
theorem mem_keepS {xs : List Int} {M : PM} {S : List PK} {p : PK × Int} (h : p ∈ keepS xs M S) : p ∈ M := (List.mem_filter.1 h).1
theorem DeskB.moved {lo : Nat} {U V : World} {b m : Nat} {n : Int} {mv cv nv : Value} {M M' : PM} {cov : List Int} (h : DeskB lo U b m n mv cv nv M cov) (hb : V.heap[b]? = U.heap[b]?) (hT : Tb.Tab pairV numV V m M') : DeskB lo V b m n mv cv nv M' cov :=
  ⟨h.lb, h.lm, hb.trans h.blk, hT, h.len⟩
set_option maxRecDepth 100000 in
set_option maxHeartbeats 8000000 in
theorem keep_calls (W : World) (u : Later W) (b m : Nat) (n : Int) (mv cv ov nv : Value) (M : PM) (cov xs : List Int) (hD : DeskB W.heap.size u.w b m n mv cv ov M cov) (hx : Ints W nv xs)
    (hov : ∃ a k c, ov = .slice a k c) (hM : ∀ q ∈ M, (0 ≤ q.1.1 ∧ q.1.1 < 20) ∧ 0 ≤ q.1.2 ∧ q.1.2 < 20) :
    Calls Try.prog 78 #[.pointer (some ⟨b, 0, none⟩), nv] u.w fun e w' => e = .returned (.tuple #[]) ∧ ∃ v : Later W, w' = v.w ∧ DeskB W.heap.size v.w b m n mv cv nv (keepM xs M) cov := by
  obtain ⟨ax, lx, cx, rfl⟩ : ∃ a n c, nv = .slice a n c := by obtain ⟨a, c, e⟩ := hx.form; exact ⟨a, _, c, e⟩
  have dl := hD.lt
  have d24 := hD.c24
  have d3 := hD.c3
  have df := hD.blk.frozen 24
  obtain ⟨hD1, hgr⟩ := hD.names (.slice ax lx cx)
  have hbel := hD.below u.size (.inl hgr)
  obtain ⟨ob, hrg, hR⟩ := hD1.tab.range Try.underlying87
  have hnd : (M.map (·.1)).Nodup := by obtain ⟨_, _, _, _, hh, _⟩ := hD1.tab; exact hh
  have HND := Lib.hid hnd
  have HM := Lib.hid hM
  obtain ⟨aov, lov, cov', rfl⟩ := hov
  go_enter Try.func78, Try.ntmps78
  go_wp2
  clear hrg hgr df d24 d3 dl
  obtain ⟨r, hr⟩ : ∃ r, (u.w.setCell ⟨b, 24, none⟩ (.slice ax lx cx)).heap.size = r := ⟨_, rfl⟩
  have hru : u.w.heap.size = r := by rw [← hr]; simp
  rw [hr] at hR
  rw [hru]
  have hbr : b < r ∧ m < r := by rw [← hru]; exact ⟨hD.lt, hD.tab.lt⟩
  have hlr : W.heap.size ≤ r := by rw [← hru]; exact u.size
  obtain ⟨v0, hv0⟩ : ∃ q : Later W, (u.w.setCell ⟨b, 24, none⟩ (.slice ax lx cx)).alloc ob = q.w := ⟨(⟨_, u.le.trans hbel⟩ : Later W).step (Later.new _ ob), rfl⟩
  have hD2 := hD1.later (Later.new _ ob)
  rw [Later.new_w] at hD2
  rw [hv0] at hR hD2 ⊢
  clear hv0 hbel hD1 hD hr hru hM hnd
  go_loopg [15] (leftS M []) (fun g _ wr' => ∃ (S : List PK) (v : Later W), wr' = v.w ∧ g = leftS M S ∧ DeskB W.heap.size v.w b m n mv cv (.slice ax lx cx) (keepS xs M S) cov ∧ Tb.Rng pairV numV v.w m r (keepS xs M S) S)
  case atStart => exact ⟨[], v0, rfl, rfl, by rw [keepS_nil]; exact hD2, by rw [keepS_nil]; exact hR⟩
  case round =>
    clear hD2 hR v0
    obtain ⟨S, v, rfl, rfl, hD, hR⟩ := hrel
    rcases hR.next pair_keys 0 with ⟨hall, hrun⟩ | ⟨p, hp, hpS, o, k, hrun, hR2, hent⟩
    · have hend := keepS_end hall
      rw [hend] at hD
      clear hR hall hend
      go_wp2
      go_end0
      exact ⟨rfl, v, rfl, hD⟩
    · obtain ⟨⟨pn, ps⟩, a1⟩ := p
      simp only [pairV, numV] at hrun hent
      have hpM := mem_keepS hp
      have HLT := Lib.hid (leftS_lt hpM hpS)
      have hb2 := HM.out _ hpM
      simp only [] at hb2
      have hD2 := hD.moved (V := Tb.setMap (v.w.drewN k) r o) (by rw [Tb.setMap_other (by omega)]; rfl) hR2.tab
      obtain ⟨V, hV⟩ : ∃ V : Later W, Tb.setMap (v.w.drewN k) r o = V.w := ⟨⟨Tb.setMap (v.w.drewN k) r o, ⟨v.le.os, v.le.tape, v.le.output, by rw [Tb.setMap_size]; exact v.le.size, fun k hk => by rw [Tb.setMap_other (by omega)]; exact v.le.block k hk⟩⟩, rfl⟩
      rw [hV] at hrun hent hR2 hD2
      clear hV hD hR
      obtain ⟨P, rfl⟩ := Int.eq_ofNat_of_zero_le hb2.1.1
      obtain ⟨Q, rfl⟩ := Int.eq_ofNat_of_zero_le hb2.2.1
      obtain ⟨a, ha⟩ : ∃ a, P / 2 = a := ⟨_, rfl⟩
      obtain ⟨c, hc⟩ : ∃ c, Q / 2 = c := ⟨_, rfl⟩
      have ea : (P : Int) / 2 = (a : Int) := by omega
      have ec : (Q : Int) / 2 = (c : Int) := by omega
      have HKB := Lib.hid (show keepB xs ((P : Int), (Q : Int)) = (hasB xs a && hasB xs c) by rw [keepB]; simp only []; rw [ea, ec])
      have ha20 : a < 20 := by omega
      have hc20 : c < 20 := by omega
      clear ha hc hb2 hp hpM hpS
      go_wp2_with fail
      clear hent hrun v
      obtain ⟨K, hK0⟩ : ∃ K, V.w.heap.size = K := ⟨_, rfl⟩
      obtain ⟨V3, hV3⟩ : ∃ q : Later V.w, V.w.alloc (.cells #[.int .i64 P, .int .i64 Q] 93) = q.w := ⟨Later.new _ _, rfl⟩
      have k0 : V3.w.cell? ⟨K, 0, none⟩ = some (.int .i64 P) := by rw [← hV3, ← hK0]; simp [go_sem]
      have k1 : V3.w.cell? ⟨K, 1, none⟩ = some (.int .i64 Q) := by rw [← hV3, ← hK0]; simp [go_sem]
      have kl : K < V3.w.heap.size := by rw [← hV3, ← hK0]; simp
      have hD3 := hD2.later V3
      have hR3 := hR2.later V3
      obtain ⟨Z, hZ⟩ : ∃ q : Later W, V3.w = q.w := ⟨V.step V3, rfl⟩
      rw [hV3]
      rw [hZ] at k0 k1 kl hD3 hR3 ⊢
      rw [hK0]
      clear hZ hV3 hK0 hD2 hR2 V3 V
      have hca := Contains_calls _ xs a Z.w (hx.later Z)
      have hcc := Contains_calls _ xs c Z.w (hx.later Z)
      have HCC := Lib.hid hcc
      clear hcc
      refine hca.mono ?_
      clear hca
      rintro e w' ⟨rfl, rfl⟩
      cases h1 : hasB xs a
      · have HF := Lib.hid (show keepB xs ((P : Int), (Q : Int)) = false by rw [HKB.out, h1]; rfl)
        clear h1
        go_wp2_with fail
        have d3 := hD3.c3
        have dl := hD3.lt
        refine Mix.region_mixL (Mix.kinds [] [] [5]) (by kernel_rfl) (by kernel_rfl) ?_
        repeat ((with_reducible refine Mix.atCons ?_); first | refine Mix.skipU (by rfl) rfl (by rfl) ?_ | (refine Mix.val rfl rfl (by rfl) (fun K hK => ?_); go_big_quiet_op; refine hK _ ?_; clear hK K) | (refine Mix.skip (by rfl) ?_; go_frame))
        refine Mix.last rfl (by rfl) (fun x K hK => ?_)
        obtain ⟨o2, hrun2, hR4⟩ := (hR3.later x).drop pair_keys Try.underlying87 (kt' := 93) (ty := 0) ((P : Int), (Q : Int))
        simp only [pairV] at hrun2
        obtain ⟨hD4, hgr4⟩ := (hD3.later x).map hR4.tab
        have hbl4 := (hD3.later x).below (Z.step x).size (.inr hgr4)
        have hkd := keepS_del (xs := xs) (M := M) (S := S) (p := (((P : Int), (Q : Int)), a1)) HF.out
        rw [hkd] at hD4 hR4
        obtain ⟨Z4, hZ4⟩ : ∃ q : Later W, Tb.setMap x.w m o2 = q.w := ⟨⟨_, (Z.step x).le.trans hbl4⟩, rfl⟩
        have HD4 := Lib.hid hD4
        have HR4 := Lib.hid hR4
        have HZ4 := Lib.hid hZ4
        clear hD4 hR4 hZ4 hbl4 hgr4 hkd
        go_wp2_with fail
        refine Mix.done (fun y => ?_)
        clear hrun2
        have hD5 := HD4.out
        have hR5 := HR4.out
        rw [HZ4.out] at hD5 hR5
        obtain ⟨y2, hy2⟩ : ∃ q : Later Z4.w, q.w = y.w := ⟨⟨y.w, HZ4.out ▸ y.le⟩, rfl⟩
        replace hD5 := hD5.later y2
        replace hR5 := hR5.later y2
        rw [← hy2]
        obtain ⟨Z5, hZ5⟩ : ∃ q : Later W, y2.w = q.w := ⟨Z4.step y2, rfl⟩
        rw [hZ5] at hD5 hR5 ⊢
        clear hZ5 hy2 HD4 HR4 HZ4 d3 dl hD3 hR3 k0 k1 kl
        go_wp2
        go_roundg (leftS M (((P : Int), (Q : Int)) :: S))
        case measure => exact HLT.out
        case rel => exact ⟨((P : Int), (Q : Int)) :: S, Z5, rfl, rfl, hD5, hR5⟩
      · cases h2 : hasB xs c
        · have HF := Lib.hid (show keepB xs ((P : Int), (Q : Int)) = false by rw [HKB.out, h1, h2]; rfl)
          have hcc := HCC.out
          rw [h2] at hcc
          clear h1 h2
          go_wp2_with (go_at_call 63; (with_reducible refine hcc.mono ?_); rintro e w' ⟨rfl, rfl⟩)
          have d3 := hD3.c3
          have dl := hD3.lt
          refine Mix.region_mixL (Mix.kinds [] [] [5]) (by kernel_rfl) (by kernel_rfl) ?_
          repeat ((with_reducible refine Mix.atCons ?_); first | refine Mix.skipU (by rfl) rfl (by rfl) ?_ | (refine Mix.val rfl rfl (by rfl) (fun K hK => ?_); go_big_quiet_op; refine hK _ ?_; clear hK K) | (refine Mix.skip (by rfl) ?_; go_frame))
          refine Mix.last rfl (by rfl) (fun x K hK => ?_)
          obtain ⟨o2, hrun2, hR4⟩ := (hR3.later x).drop pair_keys Try.underlying87 (kt' := 93) (ty := 0) ((P : Int), (Q : Int))
          simp only [pairV] at hrun2
          obtain ⟨hD4, hgr4⟩ := (hD3.later x).map hR4.tab
          have hbl4 := (hD3.later x).below (Z.step x).size (.inr hgr4)
          have hkd := keepS_del (xs := xs) (M := M) (S := S) (p := (((P : Int), (Q : Int)), a1)) HF.out
          rw [hkd] at hD4 hR4
          obtain ⟨Z4, hZ4⟩ : ∃ q : Later W, Tb.setMap x.w m o2 = q.w := ⟨⟨_, (Z.step x).le.trans hbl4⟩, rfl⟩
          have HD4 := Lib.hid hD4
          have HR4 := Lib.hid hR4
          have HZ4 := Lib.hid hZ4
          clear hD4 hR4 hZ4 hbl4 hgr4 hkd
          go_wp2_with fail
          refine Mix.done (fun y => ?_)
          clear hrun2
          have hD5 := HD4.out
          have hR5 := HR4.out
          rw [HZ4.out] at hD5 hR5
          obtain ⟨y2, hy2⟩ : ∃ q : Later Z4.w, q.w = y.w := ⟨⟨y.w, HZ4.out ▸ y.le⟩, rfl⟩
          replace hD5 := hD5.later y2
          replace hR5 := hR5.later y2
          rw [← hy2]
          obtain ⟨Z5, hZ5⟩ : ∃ q : Later W, y2.w = q.w := ⟨Z4.step y2, rfl⟩
          rw [hZ5] at hD5 hR5 ⊢
          clear hZ5 hy2 HD4 HR4 HZ4 d3 dl hD3 hR3 k0 k1 kl
          go_wp2
          go_roundg (leftS M (((P : Int), (Q : Int)) :: S))
          case measure => exact HLT.out
          case rel => exact ⟨((P : Int), (Q : Int)) :: S, Z5, rfl, rfl, hD5, hR5⟩
        · have hks := keepS_stay (xs := xs) (M := M) (S := S) (p := (((P : Int), (Q : Int)), a1)) (by rw [HKB.out, h1, h2]; rfl)
          have hcc := HCC.out
          rw [h2] at hcc
          have HD3 := Lib.hid hD3
          have HR3 := Lib.hid hR3
          have HKS := Lib.hid hks
          clear h1 h2 hks hD3 hR3
          go_wp2_with (go_at_call 63; (with_reducible refine hcc.mono ?_); rintro e w' ⟨rfl, rfl⟩)
          go_roundg (leftS M (((P : Int), (Q : Int)) :: S))
          case measure => exact HLT.out
          case rel => exact ⟨((P : Int), (Q : Int)) :: S, Z, rfl, rfl, by rw [← HKS.out]; exact HD3.out, by rw [← HKS.out]; exact HR3.out⟩

end Go.Proofs.Ytdhdpbnlhnodjaa
