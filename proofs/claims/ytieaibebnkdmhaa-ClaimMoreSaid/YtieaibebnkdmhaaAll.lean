import Derived.RangeFuncNested
import Derived.RangeFuncBound
import Derived.RangeFuncCalls
import Derived.RangeFuncLeaves
import Derived.Shelf.Abstract
import Derived.Shelf.RegionOpen
import Derived.OwnWalkIn
import Derived.TacticsInMore
import Derived.LoopNIn
import Derived.LoopIn
import Derived.Laws.CopyOwn
import Derived.Test.YtieaibebnkdmhaaLists2
namespace Go.Proofs.Ytieaibebnkdmhaa
open Go.RowKit Go.Shelf
attribute [local go_sem] Oper.semAt_some


/-- a star, or none, that may follow -/
def okS (M : PM) (m : List Int) (s : Int) : Bool := decide (s < 0) || (inM M m.length s && !m.any (isN s))
/-- all settled matchings that begin with m, d places being left -/
def allF (M : PM) (N S : Nat) : Nat → List Int → List (List Int)
  | 0, m => if (prsTo M S N).any (fun p => unsM M m p.1 p.2) then [] else [m]
  | d + 1, m => (List.range (S + 1)).flatMap fun (k : Nat) => if okS M m ((k : Int) - 1) then allF M N S d (m ++ [(k : Int) - 1]) else []
/-- those from the k-th star on -/
def allG (M : PM) (N S d : Nat) (m : List Int) (k : Nat) : List (List Int) := (List.range' k (S + 1 - k)).flatMap fun (k : Nat) => if okS M m ((k : Int) - 1) then allF M N S d (m ++ [(k : Int) - 1]) else []
theorem allG_zero (M : PM) (N S d : Nat) (m : List Int) : allG M N S d m 0 = allF M N S (d + 1) m := by
  rw [allG, allF, Nat.sub_zero, List.range_eq_range']
theorem allG_at (M : PM) (N S d : Nat) (m : List Int) (k : Nat) (h : k < S + 1) : allG M N S d m k = (if okS M m ((k : Int) - 1) then allF M N S d (m ++ [(k : Int) - 1]) else []) ++ allG M N S d m (k + 1) := by
  rw [allG, allG, show S + 1 - k = (S + 1 - (k + 1)) + 1 by omega, List.range'_succ, List.flatMap_cons]
theorem allG_end (M : PM) (N S d : Nat) (m : List Int) (k : Nat) (h : S + 1 ≤ k) : allG M N S d m k = [] := by
  rw [allG, show S + 1 - k = 0 by omega]; rfl
theorem flatMap_len {α β : Type} (f : α → List β) (c : Nat) : ∀ (l : List α), (∀ x ∈ l, (f x).length ≤ c) → (l.flatMap f).length ≤ l.length * c
  | [], _ => by simp
  | x :: l, h => by
    have h1 := h x (by simp)
    have h2 := flatMap_len f c l (fun y hy => h y (by simp [hy]))
    rw [List.flatMap_cons, List.length_append, List.length_cons, Nat.add_mul, Nat.one_mul]; omega
theorem allF_len (M : PM) (N S : Nat) (hS : S ≤ 6) : ∀ (d : Nat) (m : List Int), (allF M N S d m).length ≤ 7 ^ d
  | 0, m => by rw [allF]; split <;> simp
  | d + 1, m => by
    rw [allF]
    refine Nat.le_trans (flatMap_len _ (7 ^ d) _ fun k _ => ?_) ?_
    · split
      · exact allF_len M N S hS d _
      · simp
    · rw [List.length_range, Nat.pow_succ, Nat.mul_comm]
      exact Nat.mul_le_mul_left _ (by omega)

theorem results_cell1 {fn : Func} {t : Tmp} {T : TypeId} (h : fn.results = #[.cell t T]) (tmps : Array Value) (w : World) {A : Nat} {x : Value}
    (P : Program) (ht : tmps.getD t undef = .pointer (some ⟨A, 0, none⟩)) (i1 : ∀ w, (isAgg T).run P w = .ok false w) (h1 : w.cell? ⟨A, 0, none⟩ = some x) :
    (results fn tmps).run P w = .ok x w := by
  rw [Array.getD_eq_getD_getElem?] at ht
  simp [results, h, go_sem, ht, h1, i1]

/-- copy(new, m): of one length, into the block that was just made -/
theorem run_copy_new (V : World) (n : Nat) (v : Value) (m : List Int) (hm : Ints V v m) (hl : m.length = n) (h1 : 1 ≤ n) (ty : TypeId) :
    ∃ y : Later V, (Builtin.copy_ #[25, 25] ty #[.slice (some ⟨V.heap.size, 0, none⟩) n n, v]).run Try.prog (V.alloc (.cells (madeCells #[.int .i64 0] n) 3)) = .ok (goInt n) y.w ∧ Row y.w V.heap.size m [] 3 := by
  subst hl
  have hmA := hm.later (Later.new V (.cells (madeCells #[.int .i64 0] m.length) 3))
  rw [Later.new_w] at hmA
  obtain ⟨b, off, cap, rfl, hcp, hb, hc⟩ := hmA.at (k := 0) (by omega)
  have hg := World.alloc_heap_new V (.cells (madeCells #[.int .i64 0] m.length) 3)
  have hsz : (madeCells #[Value.int .i64 0] m.length).size = m.length := by simp [madeCells]
  have hr := run_copy_row (P := Try.prog) _ 25 25 ty 3 V.heap.size 0 m.length m.length ⟨b, off, none⟩ m.length cap _ _ (m.map (Value.int .i64)) Try.underlying25 (by kernel_rfl) hg (by simp) (by
    intro j u hj
    rw [List.getElem?_map] at hj
    obtain ⟨x, hx, rfl⟩ := Option.map_eq_some_iff.1 hj
    have hjl := (List.getElem?_eq_some_iff.1 hx).1
    have := hc j hjl
    rw [nth_eq hjl, (List.getElem?_eq_some_iff.1 hx).2] at this
    rw [Addr.add_lit]
    exact this) (by simp [hsz]) (by intro u hu; obtain ⟨x, _, rfl⟩ := List.mem_map.1 hu; rfl)
  have e : ((madeCells #[Value.int .i64 0] m.length).toList.take 0 ++ m.map (Value.int .i64) ++ (madeCells #[Value.int .i64 0] m.length).toList.drop (0 + (m.map (Value.int .i64)).length)) = m.map (Value.int .i64) ++ [] := by
    rw [List.drop_eq_nil_of_le (by simp [hsz])]
    simp
  rw [e] at hr
  rw [List.length_map] at hr
  have hle : Below V.heap.size V ((V.alloc (.cells (madeCells #[.int .i64 0] m.length) 3)).setRow V.heap.size (m.map (Value.int .i64) ++ []).toArray) := below_setRow ((Below.refl _ V).alloc (Nat.le_refl _) _) (Nat.le_refl _) _
  obtain ⟨W2, hW2⟩ : ∃ W2, (V.alloc (.cells (madeCells #[.int .i64 0] m.length) 3)).setRow V.heap.size (m.map (Value.int .i64) ++ []).toArray = W2 := ⟨_, rfl⟩
  have hrow : Row W2 V.heap.size m [] 3 := by rw [← hW2]; exact setRow_heap _ _ _ _ _ _ hg
  rw [hW2] at hle hr
  exact ⟨Later.mk W2 hle, hr, hrow⟩

/-- what a round that leaves has laid: no matching -/
def AllX (M : PM) (m : List Int) (N S b : Nat) (cc : Code) (pre : List (Pr N S)) (V : World) : Prop :=
  ∃ pre' p, cc = .ret ∧ pre = pre' ++ [p] ∧ unsM M m p.1.1 p.1.2 = true ∧ Boxed V b 22 (.slice none 0 0)

def AllW (w : World) (c : Value) (ab : Option Addr) (cb : Nat) (m : List Int) : World := (((w.alloc (.cells #[c] 67)).alloc (.cells #[.slice ab m.length cb] 25)).alloc (.cells #[.slice none 0 0] 22))
theorem AllW.facts (w : World) (c : Value) (ab : Option Addr) (cb : Nat) (m : List Int) :
    (AllW w c ab cb m).heap.size = w.heap.size + 3 ∧ Below w.heap.size w (AllW w c ab cb m) ∧ Boxed (AllW w c ab cb m) w.heap.size 67 c ∧ Boxed (AllW w c ab cb m) (w.heap.size + 1) 25 (.slice ab m.length cb) ∧ Boxed (AllW w c ab cb m) (w.heap.size + 1 + 1) 22 (.slice none 0 0) := by
  refine ⟨by simp [AllW], ?_, ?_, ?_, ?_⟩
  · exact ((Later.new _ _).step (Later.new _ _)).step (Later.new _ _) |>.le
  · have h := Boxed.new w 67 (c)
    try simp only [World.size_alloc] at h
    exact (h.alloc _).alloc _
  · have h := Boxed.new (w.alloc (.cells #[c] 67)) 25 (.slice ab m.length cb)
    try simp only [World.size_alloc] at h
    exact h.alloc _
  · have h := Boxed.new ((w.alloc (.cells #[c] 67)).alloc (.cells #[.slice ab m.length cb] 25)) 22 (.slice none 0 0)
    try simp only [World.size_alloc] at h
    exact h

/-- several lists, in new blocks -/
def GivesR (xss : List (List Int)) (w : World) (e : Ending) (w' : World) : Prop := ∃ v, ∃ x : Later w, e = .returned v ∧ w' = x.w ∧ Rows2N w.heap.size x.w v xss

set_option maxRecDepth 100000 in
set_option maxHeartbeats 2000000 in
theorem all_calls (ns ss : List (List Int)) (M : PM) (h1 : 1 ≤ ns.length) (h6 : ns.length ≤ 6) (hS : ss.length ≤ 6) : ∀ (d : Nat) (c bv : Value) (m : List Int) (w : World), Court w c ns ss M → Ints w bv m → m.length + d = ns.length →
    Calls Try.prog 70 #[c, bv] w (GivesR (allF M ns.length ss.length d m) w) := by
  intro d
  induction d with
  | zero =>
    intro c bv m w hC hm hl
    obtain ⟨ab, cb, rfl⟩ := hm.form
    obtain ⟨b, mp, nv, sv, rfl, hb, c0, c1, c2, hrn, hrs, hT⟩ := hC.open
    obtain ⟨an, cn, rfl⟩ := hrn.form
    refine (callsIn_wide (n := 4)).1 ?_
    refine callsIn_of_wp_marks Try.func70 rfl trivial ?_ rfl
    simp only [Try.ntmps70, List.size_toArray, List.length_cons, List.length_nil, Nat.reduceAdd, Nat.reduceSub, Array.replicate_succ, Array.replicate_zero, List.push_toArray, List.append_toArray, List.nil_append, List.cons_append]
    have hl' : m.length = ns.length := by omega
    have hln : ns.length ≤ 9007199254740992 := by omega
    have hb1 : b < w.heap.size + 1 := by omega
    have hb2 : b < w.heap.size + 1 + 1 := by omega
    rw [hl'] at hm ⊢
    gi_wp2_with (refine ⟨trivial, ?_⟩; gi_at_call 56; refine (callsIn_wide.2 (mkPairs_calls _ _)).mono ?_; rintro e w' ⟨rfl, rfl⟩)
    obtain ⟨hsz, hbel, b2, b3, b4⟩ := AllW.facts w (.pointer (some ⟨b, 0, none⟩)) ab cb m
    obtain ⟨W3, hW3⟩ : ∃ W3, AllW w (.pointer (some ⟨b, 0, none⟩)) ab cb m = W3 := ⟨_, rfl⟩
    rw [hW3] at hsz hbel b2 b3 b4
    rw [AllW] at hW3
    rw [hl'] at hW3 b3
    rw [hW3]
    obtain ⟨W0, hW0⟩ : ∃ W0, W3.alloc (.cells #[.pointer (some ⟨b, 0, none⟩)] 67) = W0 := ⟨_, rfl⟩
    have hs0 : W0.heap.size = w.heap.size + 4 := by rw [← hW0]; simp; omega
    have k2 := (b2.alloc (.cells #[.pointer (some ⟨b, 0, none⟩)] 67)).cell
    have k3 := (b3.alloc (.cells #[.pointer (some ⟨b, 0, none⟩)] 67)).cell
    have k4 := b4.alloc (.cells #[.pointer (some ⟨b, 0, none⟩)] 67)
    have k8 : W0.cell? ⟨w.heap.size + 1 + 1 + 1, 0, none⟩ = some (.pointer (some ⟨b, 0, none⟩)) := by rw [← hW0]; have := (Boxed.new W3 67 (.pointer (some ⟨b, 0, none⟩))).cell; rwa [hsz] at this
    have hbel0 : Below w.heap.size w W0 := by rw [← hW0]; exact hbel.alloc hbel.size _
    have hC0 : Court W0 (.pointer (some ⟨b, 0, none⟩)) ns ss M := hC.later ⟨W0, hbel0⟩
    have hm0 : Ints W0 _ m := hm.later ⟨W0, hbel0⟩
    rw [hW0] at k2 k3 k4 ⊢
    clear hW0 hW3 b2 b3 b4 hbel hsz hm hC hrs hrn hT hb1 hb2
    have hun : ∀ (x : Later W0) (p : Pr ns.length ss.length), Calls Try.prog 57 #[.pointer (some ⟨b, 0, none⟩), .agg #[.int .i64 p.1.1, .int .i64 p.1.2], .slice ab ns.length cb] x.w (Gives (.bool (unsM M m p.1.1 p.1.2)) x.w) :=
      fun x p => unsettles_calls _ ns ss _ _ _ _ m _ (hC0.later x) (hm0.later x) (by have := p.2.1; omega)
    have hl'' := Lib.hid hl'
    clear hl'
    refine wpIn_rangeFunc_ownH rfl (by decide) (gf := 81) (lb := #[.pointer (some ⟨w.heap.size + 1 + 1 + 1, 0, none⟩)]) rfl trivial (enters_of Try.func81 (by kernel_rfl) rfl)
      (pairs1_stops _ W0.heap.size (w.heap.size + 1 + 1 + 1) _ ns ss M W0 rfl (by omega) k8 hC0 (ns.length * ss.length) (Nat.le_refl _)) belowK_t (belowK_b (Nat.le_refl _)) (Below.refl _ _) (fun _ => rfl)
      (fun pre V => (∀ p ∈ pre, unsM M m p.1.1 p.1.2 = false) ∧ Below W0.heap.size W0 V)
      (fun cc pre V => AllX M m ns.length ss.length (w.heap.size + 1 + 1) cc pre V ∧ Below w.heap.size w V)
      (OwnFrom.and (ownFrom_pure _ _) (ownFrom_below (Nat.le_refl _) (Nat.le_refl _)))
      (fun cc => OwnFrom.and (Own.from (fun s A B row hs hg hr => by
        obtain ⟨pre', p, e1, e2, h2, h3⟩ := hs
        exact ⟨pre', p, e1, e2, h2, boxed_own _ _ (fun _ => _) s A B row h3 hg hr⟩) _) (ownFrom_below (Nat.le_refl _) (by omega)))
      ⟨by simp, Below.refl _ _⟩
      (fun p a' V => ∃ Bx, W0.heap.size ≤ Bx ∧ Paired V Bx p.1.1 p.1.2 ∧ a' = { tmps := #[Value.pointer (some { block := b, off := 0 }), Value.slice ab ns.length cb, Value.pointer (some { block := w.heap.size, off := 0 }), Value.pointer (some { block := w.heap.size + 1, off := 0 }), Value.pointer (some { block := w.heap.size + 1 + 1, off := 0 }), Value.int IntKind.i64 ↑ns.length, .pointer (some ⟨Bx, 0, none⟩), undef, undef, undef, undef, undef, Value.slice ab ns.length cb, Value.int IntKind.i64 ↑ns.length, Value.int IntKind.i64 ↑ns.length, Value.pointer (some { block := b, off := 0 }), Value.pointer (some { block := b, off := 0 }), Value.pointer (some { block := b, off := 0 }), Value.pointer (some { block := b, off := 0 }), Value.slice an ns.length cn, Value.int IntKind.i64 ↑ns.length, Value.bool true, Value.pointer (some { block := b, off := 0 }), Value.func (Fn.func 81) #[] #[Value.pointer (some { block := w.heap.size + 1 + 1 + 1, off := 0 })], .agg #[.int .i64 p.1.1, .int .i64 p.1.2], undef, undef, undef, undef, undef, undef, undef, undef, undef, undef, undef, undef, undef, undef, undef, undef, undef, undef, undef, undef, undef, undef, undef, undef, undef, undef, undef, undef, undef, undef, undef, undef, undef, undef, undef, undef, undef, undef, undef, undef, undef, undef, undef, undef, undef, undef, undef, undef, undef, undef, undef, undef, undef, undef, undef], defers := [] })
      ?hAx ?assign ?body ?done ?stop
    case hAx => exact fun p a' s A B row ⟨Bx, h1, h2, h3⟩ hg hr => ⟨Bx, h1, (ownFrom_cells _ (fun _ => True) Bx _ _ _ () A B row ⟨h2, trivial⟩ hg hr).1, h3⟩
    case assign =>
      rintro q pre p V K ⟨hp, hB⟩ hK
      simp only [Pr.enc]
      gi_wp2
      exact hK _ _ ((KeepsOthers.alloc _ _).from _) ((Below.refl _ V).alloc hB.size _) ⟨hp, hB.alloc hB.size _⟩ ⟨V.heap.size, hB.size, Paired.new V _ _, rfl⟩
    case body =>
      rintro q pre p a' V hl ⟨r, hr⟩ ⟨hp, hB⟩ ⟨Bx, hBx, hP, rfl⟩ hlt
      have hun := hun ⟨V, hB⟩ p
      have k2 := (hB.cell (p := ⟨w.heap.size, 0, none⟩) (by show w.heap.size < _; omega)).trans k2
      have k3 := (hB.cell (p := ⟨w.heap.size + 1, 0, none⟩) (by show w.heap.size + 1 < _; omega)).trans k3
      have p0 := hP.cell0
      have p1 := hP.cell1
      have hsV := hB.size
      have q4 := k4.later ⟨V, hB⟩
      have c4 := q4.cell
      have f4 := q4.frozen
      have g4 : w.heap.size + 1 + 1 < V.heap.size := by omega
      cases hu : unsM M m p.1.1 p.1.2
      all_goals
        rw [hu] at hun
        gi_wp2_with (refine ⟨trivial, ?_⟩; gi_at_call 57; refine (CallsIn.inRound q (callsIn_wide.2 hun)).mono ?_; clear hun; rintro e w' ⟨rfl, z, rfl⟩)
      · exact ⟨KeepsFrom.below z.le _, z.le.mono hB.size, fun q hq => (List.mem_append.1 hq).elim (hp q) (fun e => by rw [List.mem_singleton.1 e]; exact hu), hB.trans (z.le.mono hB.size)⟩
      · refine ⟨(KeepsFrom.below z.le _).trans ((KeepsOthers.setCell _ _ _).from _), ⟨pre, p, rfl, rfl, hu, (q4.later z).set _⟩, ?_⟩
        exact ((hbel0.trans (hB.mono (by omega))).trans (z.le.mono (show w.heap.size ≤ V.heap.size by omega))).setCell (p := ⟨_, 0, none⟩) (by show _ ≤ w.heap.size + 1 + 1; omega) _
    case done =>
      rintro D xs V hD hall ⟨hne, hB⟩ hK
      have k3 := (hB.cell (p := ⟨w.heap.size + 1, 0, none⟩) (by show w.heap.size + 1 < _; omega)).trans k3
      have q4 := k4.later ⟨V, hB⟩
      have c4 := q4.cell
      have f4 := q4.frozen
      have hmV := hm0.later ⟨V, hB⟩
      have hsV := hB.size
      have g4 : w.heap.size + 1 + 1 < V.heap.size := by omega
      have g3 : w.heap.size + 1 < V.heap.size := by omega
      have hmk : ∀ (w : World), (Instr.makeSlice 25 (.int .i64 (ns.length : Int)) (.int .i64 (ns.length : Int))).run Try.prog w = .ok (.slice (some ⟨w.heap.size, 0, none⟩) ns.length ns.length) (w.alloc (.cells (madeCells #[.int .i64 0] ns.length) 3)) :=
        fun w => run_make_row' _ _ _ 8 Try.underlying25 (by kernel_rfl) rfl _ _ _ (by omega) (by omega) w
      have hv := Lib.hid (show allF M ns.length ss.length 0 m = [m] by
        rw [allF, if_neg]
        rw [Bool.not_eq_true, List.any_eq_false]
        intro q hq
        rw [← hall] at hq
        obtain ⟨q', hq', rfl⟩ := List.mem_map.1 hq
        simpa using hne q' hq')
      obtain ⟨y, hcpy, hRow⟩ := run_copy_new V ns.length _ m hmV hl''.out h1 3
      have hys := hRow.lt
      have hyg : V.heap.size + 1 ≤ y.w.heap.size := hRow.lt
      have hK1 : y.w.heap[D]? = some (.deferred (some [])) := (y.le.block D (Array.getElem?_eq_some_iff.1 hK).1).trans hK
      gi_wp2
      have hb4 : Boxed (y.w.alloc (.cells #[.slice (some ⟨V.heap.size, 0, none⟩) ns.length ns.length] 25)) (w.heap.size + 1 + 1) 22 (.slice none 0 0) := (q4.later y).alloc _
      obtain ⟨W9, hW9⟩ : ∃ W9, (y.w.setCell ⟨w.heap.size + 1 + 1, 0, none⟩ (.slice (some ⟨y.w.heap.size, 0, none⟩) 1 1)).alloc (.cells #[.slice (some ⟨V.heap.size, 0, none⟩) ns.length ns.length] 25) = W9 := ⟨_, rfl⟩
      have hbox : Boxed W9 (w.heap.size + 1 + 1) 22 (.slice (some ⟨y.w.heap.size, 0, none⟩) 1 1) := by rw [← hW9]; exact ((q4.later y).set _).alloc _
      have hR9 : Row W9 V.heap.size m [] 3 := by rw [← hW9]; exact (hRow.other (by omega) _ _).later (Later.new _ _)
      have hO9 : W9.heap[y.w.heap.size]? = some (.cells #[.slice (some ⟨V.heap.size, 0, none⟩) ns.length ns.length] 25) := by
        rw [← hW9]
        have := World.alloc_heap_new (y.w.setCell ⟨w.heap.size + 1 + 1, 0, none⟩ (.slice (some ⟨y.w.heap.size, 0, none⟩) 1 1)) (.cells #[.slice (some ⟨V.heap.size, 0, none⟩) ns.length ns.length] 25)
        simpa using this
      have hbel9 : Below w.heap.size w W9 := by
        rw [← hW9]
        exact (((hbel0.trans (hB.mono (by omega))).trans (y.le.mono (show w.heap.size ≤ V.heap.size by omega))).setCell (p := ⟨_, 0, none⟩) (by show _ ≤ w.heap.size + 1 + 1; omega) _).alloc (by simp; omega) _
      have hK9 : W9.heap[D]? = some (.deferred (some [])) := by
        rw [← hW9]
        have hDlt := (Array.getElem?_eq_some_iff.1 hK1).1
        exact (Below.heap_alloc _ _ D (by simpa using hDlt)).trans ((Below.heap_setCell _ _ _ D (by show D ≠ w.heap.size + 1 + 1; omega)).trans hK1)
      rw [hW9]
      have hn9 : Rows2N w.heap.size W9 (.slice (some ⟨y.w.heap.size, 0, none⟩) 1 1) [m] := by
        refine ⟨[(V.heap.size, ns.length)], rfl, fun k hk => ?_, rfl, .inr ⟨y.w.heap.size, 1, _, rfl, by omega, hO9, Nat.le_refl _, by decide, rfl, ?_⟩⟩
        · have : k = 0 := by simpa using hk
          subst this
          have := hl''.out
          exact ⟨[], hR9, by show m.length ≤ ns.length; omega, by show m.length ≤ _; omega⟩
        · have := hl''.out
          simp [row, this]
      refine ⟨by simp, .inl ⟨_, _, rfl, run_takeDeferred hK9, ?_⟩⟩
      refine ⟨_, results_cell1 rfl _ _ _ rfl (fun w => by kernel_rfl) (hbox.put (by omega)).cell, _, Later.mk _ (hbel9.trans (belowK_b (w := w) (Nat.le_refl _) _ D _ _ (by omega) hK9 rfl rfl)), rfl, rfl, ?_⟩
      rw [hv.out]
      exact hn9.putObj _ hK9 rfl
    case stop =>
      rintro D cc pre V hD hpre ⟨⟨pre', p, rfl, rfl, hu, q4⟩, hB⟩ hK
      have hv := Lib.hid (show allF M ns.length ss.length 0 m = [] by
        rw [allF, if_pos]
        rw [List.any_eq_true]
        exact ⟨p.1, hpre.subset (List.mem_map.2 ⟨p, by simp, rfl⟩), hu⟩)
      gi_wp2
      refine ⟨by simp, .inl ⟨_, _, rfl, run_takeDeferred hK, ?_⟩⟩
      refine ⟨_, results_cell1 rfl _ _ _ rfl (fun w => by kernel_rfl) (q4.put (by omega)).cell, _, Later.mk _ (hB.trans (belowK_b (w := w) (Nat.le_refl _) _ D _ _ (by omega) hK rfl rfl)), rfl, rfl, ?_⟩
      rw [hv.out]
      exact Rows2N.nil _ _
  | succ d ih =>
    intro c bv m w hC hm hl
    obtain ⟨ab, cb, rfl⟩ := hm.form
    obtain ⟨b, mp, nv, sv, rfl, hb, c0, c1, c2, hrn, hrs, hT⟩ := hC.open
    obtain ⟨an, cn, rfl⟩ := hrn.form
    obtain ⟨aS, cS, rfl⟩ := hrs.form
    refine (callsIn_wide (n := 4)).1 ?_
    refine callsIn_of_wp_marks Try.func70 rfl trivial ?_ rfl
    refine wpIn_wide.2 ?_
    simp only [Try.ntmps70, List.size_toArray, List.length_cons, List.length_nil, Nat.reduceAdd, Nat.reduceSub, Array.replicate_succ, Array.replicate_zero, List.push_toArray, List.append_toArray, List.nil_append, List.cons_append]
    have hml : (m.length : Int) ≤ 6 := by omega
    have hne : ((m.length : Int) == (ns.length : Int)) = false := by simp; omega
    have hln : ns.length ≤ 9007199254740992 := by omega
    have hb1 : b < w.heap.size + 1 := by omega
    have hb2 : b < w.heap.size + 1 + 1 := by omega
    go_wp2
    obtain ⟨hsz, hbel, b2, b3, b4⟩ := AllW.facts w (.pointer (some ⟨b, 0, none⟩)) ab cb m
    obtain ⟨W3, hW3⟩ : ∃ W3, AllW w (.pointer (some ⟨b, 0, none⟩)) ab cb m = W3 := ⟨_, rfl⟩
    rw [hW3] at hsz hbel b2 b3 b4
    rw [AllW] at hW3
    rw [hW3]
    have hC3 : Court W3 (.pointer (some ⟨b, 0, none⟩)) ns ss M := hC.later ⟨W3, hbel⟩
    have hm3 : Ints W3 _ m := hm.later ⟨W3, hbel⟩
    have hT3 := hT.later ⟨W3, hbel⟩
    have k0 := (hbel.cell (p := ⟨b, 1, none⟩) hb).trans c1
    have k1 := (hbel.cell (p := ⟨b, 2, none⟩) hb).trans c2
    have k2 := b2.cell
    have k3 := b3.cell
    have hb3 : b < W3.heap.size := by omega
    have j2 : w.heap.size < W3.heap.size := by omega
    have j3 : w.heap.size + 1 < W3.heap.size := by omega
    have j4 : w.heap.size + 1 + 1 < W3.heap.size := by omega
    clear hW3 hC hm hT c0 c1 c2 hrn hrs hb1 hb2
    have hcb : m.length ≤ cb := by
      obtain ⟨_, ⟨e, _⟩ | ⟨_, _, _, e, hcp, _⟩⟩ := id hm3
      · rw [e]; exact Nat.zero_le _
      · cases e; exact hcp
    have hmn : Ints W3 (.slice ab m.length m.length) m := by
      obtain ⟨q, ⟨e, a, cc, e2⟩ | ⟨b', off, cc, e, hcp, hlt, hc⟩⟩ := id hm3
      · subst e; exact ⟨by simp, .inl ⟨rfl, _, _, rfl⟩⟩
      · cases e; exact ⟨q, .inr ⟨b', off, m.length, rfl, Nat.le_refl _, hlt, hc⟩⟩
    have h7 : 7 ^ d ≤ 117649 := Nat.le_trans (Nat.pow_le_pow_right (by omega) (show d ≤ 6 by omega)) (by decide)
    go_loopw [9, 8] (fun s out wr => ∃ (k : Nat) (acc : List (List Int)), k ≤ ss.length + 1 ∧ s = .int .i64 ((k : Int) - 1) ∧ Below W3.heap.size W3 wr ∧ Rows2N W3.heap.size wr out acc ∧ acc.length ≤ k * 7 ^ d ∧ Hid (allF M ns.length ss.length (d + 1) m = acc ++ allG M ns.length ss.length d m k)) (fun s _ _ => ss.length + 1 - (intOf s + 1).toNat)
    case atStart => exact ⟨0, [], Nat.zero_le _, rfl, Below.refl _ _, Rows2N.nil _ _, by simp, by unfold Hid; rw [allG_zero]; simp⟩
    case round =>
      obtain ⟨k, acc, hk, rfl, hB, hA, hal, hp⟩ := hrel
      rename_i out
      obtain ⟨ao, co, rfl⟩ := hA.form
      have k0 := (hB.cell (p := ⟨b, 1, none⟩) hb3).trans k0
      have k1 := (hB.cell (p := ⟨b, 2, none⟩) hb3).trans k1
      have k2 := (hB.cell (p := ⟨w.heap.size, 0, none⟩) j2).trans k2
      have k3 := (hB.cell (p := ⟨w.heap.size + 1, 0, none⟩) j3).trans k3
      have hsW := hB.size
      have hb3 : b < wr.heap.size := by omega
      have j2 : w.heap.size < wr.heap.size := by omega
      have j3 : w.heap.size + 1 < wr.heap.size := by omega
      have hlk := look_court2 (hT3.later ⟨wr, hB⟩) m.length ((k : Int) - 1)
      have hmr := hm3.later ⟨wr, hB⟩
      by_cases hlt : k < ss.length + 1
      · have hs := Lib.hid (allG_at M ns.length ss.length d m k hlt)
        by_cases hs0 : (k : Int) - 1 < 0
        · have hok : okS M m ((k : Int) - 1) = true := by simp [okS, hs0]
          go_wp2
          refine Mix.region_mixL (Mix.kinds [] [7, 8, 9] [10, 11]) (by kernel_rfl) (by kernel_rfl) ?_
          repeat ((with_reducible refine Mix.atCons ?_); first | refine Mix.skipU (by rfl) rfl (by rfl) ?_ | (refine Mix.val rfl rfl (by rfl) (fun K hK => ?_); go_big_quiet_op; refine hK _ ?_; clear hK K))
          refine Mix.loud rfl (by rfl) (fun x1 K hK => ?_)
          go_wp2_with fail
          refine hK _ (Later.new _ _) ?_
          clear hK K
          refine Mix.loud rfl (by rfl) (fun x2 K hK => ?_)
          obtain ⟨y2, hy2⟩ : ∃ y2 : Later wr, y2.w = x2.w := ⟨(((Later.new _ _).step x1).step (Later.new _ _)).step x2, rfl⟩
          have hA2 : Rows2N W3.heap.size x2.w (.slice ao acc.length co) acc := hy2 ▸ hA.later y2
          have hB2 : Below W3.heap.size W3 x2.w := by rw [← hy2]; exact hB.trans (y2.le.mono hB.size)
          have hm2 : Ints x2.w (.slice ab m.length m.length) m := hmn.later ⟨x2.w, hB2⟩
          have hcs : x2.w.cell? ⟨x1.w.heap.size, 0, none⟩ = some (.int .i64 ((k : Int) - 1)) := by
            have := (Boxed.new x1.w 3 (.int .i64 ((k : Int) - 1))).cell
            rw [← this]
            exact x2.cell (by simp [go_sem])
          obtain ⟨c', rest, hrun, hc'⟩ := run_append_int x2.w m m.length ab hm2 rfl x1.w.heap.size 1 ((k : Int) - 1) hcs (by omega) 25
          refine Lib.wp_append_run_sl _ _ _ 25 rfl _ _ rfl rfl hrun ?_
          obtain ⟨y3, hy3⟩ : ∃ y3 : Later x2.w, x2.w.drew.alloc (.cells ((m ++ [(k : Int) - 1]).map (Value.int .i64) ++ rest).toArray 3) = y3.w := ⟨(Later.draw _).step (Later.new _ _), rfl⟩
          have hr3 : Row y3.w x2.w.heap.size (m ++ [(k : Int) - 1]) rest 3 := by rw [← hy3]; exact World.alloc_heap_new x2.w.drew _
          rw [hy3]
          refine hK _ y3 ?_
          clear hK K hrun hy3 hcs hm2
          refine Mix.loud rfl (by rfl) (fun x4 K hK => ?_)
          have hr4 := hr3.later x4
          have hB4 : Below W3.heap.size W3 x4.w := hB2.trans ((y3.step x4).le.mono hB2.size)
          have hC4 : Court x4.w (.pointer (some ⟨b, 0, none⟩)) ns ss M := hC3.later ⟨x4.w, hB4⟩
          have hi4 : Ints x4.w (.slice (some ⟨x2.w.heap.size, 0, none⟩) (m.length + 1) c') (m ++ [(k : Int) - 1]) := hr4.ints (by simp) (by simp; omega) (by simp; omega)
          have har := ih _ _ _ x4.w hC4 hi4 (by simp; omega)
          go_wp2_with fail
          refine har.mono ?_
          rintro e w' ⟨l, y5, rfl, rfl, hL⟩
          refine hK _ y5 ?_
          clear hK K har
          refine Mix.lastR rfl (by rfl) (by decide) (fun x6 K hK => ?_)
          have hA6 : Rows2N W3.heap.size x6.w (.slice ao acc.length co) acc := (((hA2.later y3).later x4).later y5).later x6
          have hL6 := hL.later x6
          have hB6 : Below W3.heap.size W3 x6.w := hB4.trans ((y5.step x6).le.mono hB4.size)
          have hfl := allF_len M ns.length ss.length hS d (m ++ [(k : Int) - 1])
          have hk7 : k * 7 ^ d ≤ 7 * 117649 := Nat.mul_le_mul (by omega) h7
          obtain ⟨v7, w7, hrun7, hR7, hB7⟩ := run_append_rows x6.w W3.heap.size x4.w.heap.size _ l acc _ hA6 hL6 hB6.size (by omega) 22
          refine Lib.wp_append_run_sl _ _ _ 22 rfl _ _ rfl rfl hrun7 ?_
          refine hK _ _ ?_
          clear hK K hrun7
          refine Mix.last rfl (by rfl) (fun x7 K hK => ?_)
          go_wp2_with fail
          refine Mix.done (fun x8 => ?_)
          go_wp2
          go_roundw
          case rel =>
            refine ⟨k + 1, acc ++ allF M ns.length ss.length d (m ++ [(k : Int) - 1]), by omega, by go_num, (hB6.trans hB7).trans ((x7.step x8).le.mono (hB6.trans hB7).size), (hR7.later x7).later x8, ?_, ?_⟩
            · rw [List.length_append, Nat.add_mul, Nat.one_mul]; omega
            · unfold Hid; rw [hp.out, hs.out, hok, if_pos rfl, List.append_assoc]
          case measure => simp [intOf]; omega
        · cases hin : inM M m.length ((k : Int) - 1)
          · rw [hin] at hlk
            have hok : okS M m ((k : Int) - 1) = false := by simp [okS, hs0, hin]
            go_wp2
            go_roundw
            case rel => exact ⟨k + 1, acc, by omega, by go_num, (Later.mk wr hB).step (Later.new _ _) |>.le, hA.later (Later.new _ _), Nat.le_trans hal (Nat.mul_le_mul_right _ (by omega)), by unfold Hid; rw [hp.out, hs.out, hok]; rfl⟩
            case measure => simp [intOf]; omega
          · rw [hin] at hlk
            cases hany : m.any (isN ((k : Int) - 1))
            · have hok : okS M m ((k : Int) - 1) = true := by simp [okS, hs0, hin, hany]
              go_wp2_with (go_at_call 80; (with_reducible refine (Contains_calls _ m _ _ ?_).mono ?_); exact hmr.later (Later.new _ _); rintro e w' ⟨rfl, rfl⟩)
              refine Mix.region_mixL (Mix.kinds [] [7, 8, 9] [10, 11]) (by kernel_rfl) (by kernel_rfl) ?_
              repeat ((with_reducible refine Mix.atCons ?_); first | refine Mix.skipU (by rfl) rfl (by rfl) ?_ | (refine Mix.val rfl rfl (by rfl) (fun K hK => ?_); go_big_quiet_op; refine hK _ ?_; clear hK K))
              refine Mix.loud rfl (by rfl) (fun x1 K hK => ?_)
              go_wp2_with fail
              refine hK _ (Later.new _ _) ?_
              clear hK K
              refine Mix.loud rfl (by rfl) (fun x2 K hK => ?_)
              obtain ⟨y2, hy2⟩ : ∃ y2 : Later wr, y2.w = x2.w := ⟨(((Later.new _ _).step x1).step (Later.new _ _)).step x2, rfl⟩
              have hA2 : Rows2N W3.heap.size x2.w (.slice ao acc.length co) acc := hy2 ▸ hA.later y2
              have hB2 : Below W3.heap.size W3 x2.w := by rw [← hy2]; exact hB.trans (y2.le.mono hB.size)
              have hm2 : Ints x2.w (.slice ab m.length m.length) m := hmn.later ⟨x2.w, hB2⟩
              have hcs : x2.w.cell? ⟨x1.w.heap.size, 0, none⟩ = some (.int .i64 ((k : Int) - 1)) := by
                have := (Boxed.new x1.w 3 (.int .i64 ((k : Int) - 1))).cell
                rw [← this]
                exact x2.cell (by simp [go_sem])
              obtain ⟨c', rest, hrun, hc'⟩ := run_append_int x2.w m m.length ab hm2 rfl x1.w.heap.size 1 ((k : Int) - 1) hcs (by omega) 25
              refine Lib.wp_append_run_sl _ _ _ 25 rfl _ _ rfl rfl hrun ?_
              obtain ⟨y3, hy3⟩ : ∃ y3 : Later x2.w, x2.w.drew.alloc (.cells ((m ++ [(k : Int) - 1]).map (Value.int .i64) ++ rest).toArray 3) = y3.w := ⟨(Later.draw _).step (Later.new _ _), rfl⟩
              have hr3 : Row y3.w x2.w.heap.size (m ++ [(k : Int) - 1]) rest 3 := by rw [← hy3]; exact World.alloc_heap_new x2.w.drew _
              rw [hy3]
              refine hK _ y3 ?_
              clear hK K hrun hy3 hcs hm2
              refine Mix.loud rfl (by rfl) (fun x4 K hK => ?_)
              have hr4 := hr3.later x4
              have hB4 : Below W3.heap.size W3 x4.w := hB2.trans ((y3.step x4).le.mono hB2.size)
              have hC4 : Court x4.w (.pointer (some ⟨b, 0, none⟩)) ns ss M := hC3.later ⟨x4.w, hB4⟩
              have hi4 : Ints x4.w (.slice (some ⟨x2.w.heap.size, 0, none⟩) (m.length + 1) c') (m ++ [(k : Int) - 1]) := hr4.ints (by simp) (by simp; omega) (by simp; omega)
              have har := ih _ _ _ x4.w hC4 hi4 (by simp; omega)
              go_wp2_with fail
              refine har.mono ?_
              rintro e w' ⟨l, y5, rfl, rfl, hL⟩
              refine hK _ y5 ?_
              clear hK K har
              refine Mix.lastR rfl (by rfl) (by decide) (fun x6 K hK => ?_)
              have hA6 : Rows2N W3.heap.size x6.w (.slice ao acc.length co) acc := (((hA2.later y3).later x4).later y5).later x6
              have hL6 := hL.later x6
              have hB6 : Below W3.heap.size W3 x6.w := hB4.trans ((y5.step x6).le.mono hB4.size)
              have hfl := allF_len M ns.length ss.length hS d (m ++ [(k : Int) - 1])
              have hk7 : k * 7 ^ d ≤ 7 * 117649 := Nat.mul_le_mul (by omega) h7
              obtain ⟨v7, w7, hrun7, hR7, hB7⟩ := run_append_rows x6.w W3.heap.size x4.w.heap.size _ l acc _ hA6 hL6 hB6.size (by omega) 22
              refine Lib.wp_append_run_sl _ _ _ 22 rfl _ _ rfl rfl hrun7 ?_
              refine hK _ _ ?_
              clear hK K hrun7
              refine Mix.last rfl (by rfl) (fun x7 K hK => ?_)
              go_wp2_with fail
              refine Mix.done (fun x8 => ?_)
              go_wp2
              go_roundw
              case rel =>
                refine ⟨k + 1, acc ++ allF M ns.length ss.length d (m ++ [(k : Int) - 1]), by omega, by go_num, (hB6.trans hB7).trans ((x7.step x8).le.mono (hB6.trans hB7).size), (hR7.later x7).later x8, ?_, ?_⟩
                · rw [List.length_append, Nat.add_mul, Nat.one_mul]; omega
                · unfold Hid; rw [hp.out, hs.out, hok, if_pos rfl, List.append_assoc]
              case measure => simp [intOf]; omega
            · have hok : okS M m ((k : Int) - 1) = false := by simp [okS, hs0, hin, hany]
              go_wp2_with (go_at_call 80; (with_reducible refine (Contains_calls _ m _ _ ?_).mono ?_); exact hmr.later (Later.new _ _); rintro e w' ⟨rfl, rfl⟩)
              go_roundw
              case rel => exact ⟨k + 1, acc, by omega, by go_num, (Later.mk wr hB).step (Later.new _ _) |>.le, hA.later (Later.new _ _), Nat.le_trans hal (Nat.mul_le_mul_right _ (by omega)), by unfold Hid; rw [hp.out, hs.out, hok]; rfl⟩
              case measure => simp [intOf]; omega
      · have he := Lib.hid (allG_end M ns.length ss.length d m k (by omega))
        have b4' := b4.later ⟨wr, hB⟩
        have c4 := b4'.cell
        have f4 := b4'.frozen
        have j4' : w.heap.size + 1 + 1 < wr.heap.size := by omega
        go_wp2
        have hbw : Below w.heap.size w (wr.setCell ⟨w.heap.size + 1 + 1, 0, none⟩ (.slice ao acc.length co)) := (hbel.trans (hB.mono (by omega))).setCell (p := ⟨_, 0, none⟩) (by show _ ≤ w.heap.size + 1 + 1; omega) _
        refine ⟨_, results_cell1 rfl _ _ _ rfl (fun w => by kernel_rfl) (b4'.set _).cell, _, Later.mk _ hbw, rfl, rfl, ?_⟩
        have hk2 := (hA.kept b4' (by decide) (by decide) (grownBy_setCell' wr (w.heap.size + 1 + 1) (.slice ao acc.length co))).mono (lo' := w.heap.size) (by omega)
        have e : allF M ns.length ss.length (d + 1) m = acc := by rw [hp.out, he.out, List.append_nil]
        rw [e]
        exact hk2
end Go.Proofs.Ytieaibebnkdmhaa
