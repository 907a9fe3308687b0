import Derived.RangeFuncNested
import Derived.RangeFuncBound
import Derived.RangeFuncCalls
import Derived.RangeFuncLeaves
import Derived.Shelf.Abstract
import Derived.Shelf.RegionOpen
import Derived.OwnWalkIn
import Derived.TacticsInMore
import Derived.LoopNIn
import Derived.LoopIn
import Derived.Test.YtieaibebnkdmhaaMatch
namespace Go.Proofs.Ytieaibebnkdmhaa
open Go.RowKit Go.Shelf
attribute [local go_sem] Oper.semAt_some

/-- how many nations have a star -/
def cntF : List Int → Nat
  | [] => 0
  | s :: l => (if 0 ≤ s then 1 else 0) + cntF l
theorem cntF_at (l : List Int) (k : Nat) (h : k < l.length) : cntF (l.drop k) = (if 0 ≤ nth l k then 1 else 0) + cntF (l.drop (k + 1)) := by
  rw [List.drop_eq_getElem_cons h, cntF, nth_eq h]
theorem cntF_end (l : List Int) (k : Nat) (h : l.length ≤ k) : cntF (l.drop k) = 0 := by
  rw [List.drop_eq_nil_of_le h, cntF]
theorem cntF_le : ∀ l : List Int, cntF l ≤ l.length
  | [] => Nat.le_refl _
  | s :: l => by
    have := cntF_le l
    simp only [cntF, List.length_cons]
    split <;> omega
/-- what CheckMatching says -/
def cmat (ns ss : List (List Int)) (m : List Int) : Int := if vmatch ns ss m = 0 then cntF m else 0

theorem ret_two2 {k k' : IntKind} {a b a' b' : Int} (h : a = b) (h' : a' = b') : Ending.returned (.tuple #[.int k a, .int k' a']) = .returned (.tuple #[.int k b, .int k' b']) := by rw [h, h']
theorem ret_three {k k' k'' : IntKind} {a b a' b' a'' b'' : Int} (h : a = b) (h' : a' = b') (h'' : a'' = b'') : Ending.returned (.tuple #[.int k a, .int k' a', .int k'' a'']) = .returned (.tuple #[.int k b, .int k' b', .int k'' b'']) := by rw [h, h', h'']

set_option maxRecDepth 100000 in
set_option maxHeartbeats 2000000 in
theorem CheckMatching_calls (nv sv mv : Value) (ns ss : List (List Int)) (m : List Int) (w : World) (hn : Rows2 w nv ns) (hs : Rows2 w sv ss) (hm : Ints w mv m) :
    Calls Try.prog 19 #[.agg #[nv, sv], mv] w (Gives (.tuple #[.int .i64 (cmat ns ss m), .int .i64 (vmatch ns ss m)]) w) := by
  obtain ⟨an, cn, rfl⟩ := hn.form
  obtain ⟨aS, cS, rfl⟩ := hs.form
  obtain ⟨am, cm, rfl⟩ := hm.form
  have hlm := hm.1
  have hn0 : Rows2 (w.alloc (.cells #[.slice an ns.length cn, .slice aS ss.length cS] 24)) _ _ := hn.later (Later.new _ _)
  have hs0 : Rows2 (w.alloc (.cells #[.slice an ns.length cn, .slice aS ss.length cS] 24)) _ _ := hs.later (Later.new _ _)
  have hm0 : Ints (w.alloc (.cells #[.slice an ns.length cn, .slice aS ss.length cS] 24)) _ _ := hm.later (Later.new _ _)
  go_enter Try.func19, Try.ntmps19
  go_wp2_with fail
  refine (matched_calls _ _ _ ns ss m _ hn0 hs0 hm0).mono ?_
  rintro e w' ⟨c, x, rfl, rfl, hC⟩
  clear hC
  by_cases h0 : vmatch ns ss m = 0
  rotate_left
  · have hb : (vmatch ns ss m == 0) = false := by simpa using h0
    have hv := Lib.hid (show cmat ns ss m = 0 by rw [cmat, if_neg h0])
    have h0 := Lib.hid h0
    have hb2 : (vmatch ns ss m != 0) = true := by simpa using h0.out
    go_wp2
    go_ret2
    exact ⟨ret_two2 hv.out.symm rfl, (Later.new _ _).step x, rfl⟩
  · have hv := Lib.hid (show cmat ns ss m = cntF m by rw [cmat, if_pos h0])
    have hv0 := Lib.hid h0
    rw [h0]
    clear h0
    have hm1 := hm0.later x
    go_wp2
    go_loop [22, 8] (fun i c => ∃ k : Nat, ∃ d : Nat, k ≤ m.length ∧ d ≤ k ∧ i = .int .i64 k ∧ c = .int .i64 d ∧ Hid (cntF m = d + cntF (m.drop k))) (fun i c => m.length - (intOf i).toNat)
    case atStart => exact ⟨0, 0, Nat.zero_le _, Nat.le_refl _, rfl, rfl, by unfold Hid; simp⟩
    case round =>
      obtain ⟨k, d, hk, hd, rfl, rfl, hp⟩ := hrel
      by_cases hlt : k < m.length
      · obtain ⟨bm, om, cmm, e, hcp, hbm, hcm⟩ := hm1.at (k := k) hlt
        cases e
        have hcell := hcm k hlt
        have hs := Lib.hid (cntF_at m k hlt)
        clear hcm
        by_cases hge : 0 ≤ nth m k
        · go_wp2
          go_round
          case rel => exact ⟨k + 1, d + 1, by omega, by omega, by go_num, by go_num, by unfold Hid; rw [hp.out, hs.out, if_pos hge]; omega⟩
          case measure => simp [intOf]; omega
        · go_wp2
          go_round
          case rel => exact ⟨k + 1, d, by omega, by omega, by go_num, by go_num, by unfold Hid; rw [hp.out, hs.out, if_neg hge]; omega⟩
          case measure => simp [intOf]; omega
      · have he := Lib.hid (cntF_end m k (by omega))
        go_wp2
        go_ret2
        exact ⟨ret_two2 (by rw [hv.out, hp.out, he.out]; simp) hv0.out.symm, (Later.new _ _).step x, rfl⟩

/-- the first pair that unsettles a matching -/
def unsFst (M : PM) (N S : Nat) (m : List Int) : Option (Nat × Nat) := (prsTo M S N).find? (fun p => unsM M m p.1 p.2)
/-- what Unsettled says -/
def unsR (ns ss : List (List Int)) (m : List Int) : Int × Int × Int :=
  if vmatch ns ss m = 0 then
    match unsFst (tabOf ns ss) ns.length ss.length m with
    | some (n, s) => (n, s, 0)
    | none => (0, 0, 5)
  else (0, 0, vmatch ns ss m)

theorem _root_.Go.Boxed.later {W : World} {B : Nat} {T : TypeId} {v : Value} (h : Boxed W B T v) (x : Later W) : Boxed x.w B T v := (x.le.block B h.lt).trans h
theorem _root_.Go.Boxed.put {W : World} {B D : Nat} {T : TypeId} {v : Value} {o : Obj} (h : Boxed W B T v) (hne : B ≠ D) : Boxed (W.putObj D o) B T v := h.kept (grownBy_putObj' W D o) (by simpa using hne)
theorem _root_.Go.KeepsFrom.below {W W' : World} (h : Below W.heap.size W W') (B : Nat) : KeepsFrom B W W' := ⟨h.size, fun k _ _ hk _ => (h.block k (Array.getElem?_eq_some_iff.1 hk).1).trans hk⟩
/-- a block that holds a pair -/
def Paired (W : World) (B : Nat) (n s : Nat) : Prop := W.heap[B]? = some (.cells #[.int .i64 n, .int .i64 s] 74 (0, 0))
theorem Paired.lt {W : World} {B n s : Nat} (h : Paired W B n s) : B < W.heap.size := (Array.getElem?_eq_some_iff.1 h).1
theorem Paired.cell0 {W : World} {B n s : Nat} (h : Paired W B n s) : W.cell? ⟨B, 0, none⟩ = some (.int .i64 n) := by simp [World.cell?, show W.heap[B]? = _ from h]
theorem Paired.cell1 {W : World} {B n s : Nat} (h : Paired W B n s) : W.cell? ⟨B, 1, none⟩ = some (.int .i64 s) := by simp [World.cell?, show W.heap[B]? = _ from h]
theorem Paired.later {W : World} {B n s : Nat} (h : Paired W B n s) (x : Later W) : Paired x.w B n s := (x.le.block B h.lt).trans h
theorem Paired.new (W : World) (n s : Nat) : Paired (W.alloc (.cells #[.int .i64 n, .int .i64 s] 74)) W.heap.size n s := World.alloc_heap_new W _
theorem ownFrom_cells {β : Type} (B' : Nat) (P : β → Prop) (B : Nat) (cs : Array Value) (T : TypeId) (z : Nat × Nat) : OwnFrom B' (fun (s : β) W => W.heap[B]? = some (.cells cs T z) ∧ P s) :=
  fun s X Y row hs hg hr => by
    refine ⟨(hg.block B (Array.getElem?_eq_some_iff.1 hs.1).1 (fun e => ?_)).trans hs.1, hs.2⟩
    obtain ⟨o, ho, hc⟩ := (hr B e.symm).2
    rw [hs.1] at ho; cases ho; cases hc

theorem cell_set3 (W : World) (A B C : Nat) {T1 T2 T3 : TypeId} {u1 u2 u3 : Value} (v1 v2 v3 : Value) (h1 : Boxed W A T1 u1) (h2 : Boxed W B T2 u2) (h3 : Boxed W C T3 u3) (hAB : A ≠ B) (hAC : A ≠ C) (hBC : B ≠ C) :
    Boxed (((W.setCell ⟨A, 0, none⟩ v1).setCell ⟨B, 0, none⟩ v2).setCell ⟨C, 0, none⟩ v3) A T1 v1 ∧ Boxed (((W.setCell ⟨A, 0, none⟩ v1).setCell ⟨B, 0, none⟩ v2).setCell ⟨C, 0, none⟩ v3) B T2 v2 ∧ Boxed (((W.setCell ⟨A, 0, none⟩ v1).setCell ⟨B, 0, none⟩ v2).setCell ⟨C, 0, none⟩ v3) C T3 v3 :=
  ⟨((h1.set v1).other hAB v2).other hAC v3, ((h2.other (Ne.symm hAB) v1).set v2).other hBC v3, ((h3.other (Ne.symm hAC) v1).other (Ne.symm hBC) v2).set v3⟩
theorem results_cells3 {fn : Func} {t u v : Tmp} {T1 T2 T3 : TypeId} (h : fn.results = #[.cell t T1, .cell u T2, .cell v T3]) (tmps : Array Value) (w : World) {A B C : Nat} {x y z : Value}
    (P : Program) (ht : tmps.getD t undef = .pointer (some ⟨A, 0, none⟩)) (hu : tmps.getD u undef = .pointer (some ⟨B, 0, none⟩)) (hv : tmps.getD v undef = .pointer (some ⟨C, 0, none⟩))
    (i1 : ∀ w, (isAgg T1).run P w = .ok false w) (i2 : ∀ w, (isAgg T2).run P w = .ok false w) (i3 : ∀ w, (isAgg T3).run P w = .ok false w) (h1 : w.cell? ⟨A, 0, none⟩ = some x) (h2 : w.cell? ⟨B, 0, none⟩ = some y) (h3 : w.cell? ⟨C, 0, none⟩ = some z) :
    (results fn tmps).run P w = .ok (.tuple #[x, y, z]) w := by
  rw [Array.getD_eq_getD_getElem?] at ht hu hv
  simp [results, h, go_sem, ht, hu, hv, h1, h2, h3, i1, i2, i3]

theorem vmatch_len {ns ss : List (List Int)} {m : List Int} (h : vmatch ns ss m = 0) : m.length = ns.length := by
  unfold vmatch at h
  by_cases h1 : vbook ns ss ≠ 0
  · rw [if_pos h1] at h; exact absurd h h1
  · rw [if_neg h1] at h
    by_cases h2 : m.length ≠ ns.length
    · rw [if_pos h2] at h; cases h
    · simpa using h2

theorem find_snoc {α : Type} (p : α → Bool) (l : List α) (x : α) (h : ∀ y ∈ l, p y = false) (hx : p x = true) : (l ++ [x]).find? p = some x := by
  rw [List.find?_append, List.find?_eq_none.2 (by simpa using h)]
  simp [hx]
theorem find_prefix {α : Type} (p : α → Bool) {l r : List α} (h : l <+: r) {x : α} (hx : l.find? p = some x) : r.find? p = some x := by
  obtain ⟨t, rfl⟩ := h
  rw [List.find?_append, hx]; rfl

/-- what a round that leaves has laid: its pair, which unsettles, in the results' boxes b, b + 1, b + 2 -/
def UnsX (M : PM) (m : List Int) (N S b : Nat) (cc : Code) (pre : List (Pr N S)) (V : World) : Prop :=
  ∃ pre' p, cc = .ret ∧ pre = pre' ++ [p] ∧ (∀ p ∈ pre', unsM M m p.1.1 p.1.2 = false) ∧ unsM M m p.1.1 p.1.2 = true ∧
    Boxed V b 3 (.int .i64 p.1.1) ∧ Boxed V (b + 1) 3 (.int .i64 p.1.2) ∧ Boxed V (b + 1 + 1) 28 (.int .i64 0)

set_option maxRecDepth 100000 in
set_option maxHeartbeats 2000000 in
theorem Unsettled_calls (nv sv mv : Value) (ns ss : List (List Int)) (m : List Int) (w : World) (hn : Rows2 w nv ns) (hs : Rows2 w sv ss) (hm : Ints w mv m) :
    Calls Try.prog 21 #[.agg #[nv, sv], mv] w (Gives (.tuple #[.int .i64 (unsR ns ss m).1, .int .i64 (unsR ns ss m).2.1, .int .i64 (unsR ns ss m).2.2]) w) := by
  obtain ⟨an, cn, rfl⟩ := hn.form
  obtain ⟨aS, cS, rfl⟩ := hs.form
  obtain ⟨am, cm, rfl⟩ := hm.form
  refine (callsIn_wide (n := 4)).1 ?_
  refine callsIn_of_wp_marks Try.func21 rfl trivial ?_ rfl
  simp only [Try.ntmps21, List.size_toArray, List.length_cons, List.length_nil, Nat.reduceAdd, Nat.reduceSub, Array.replicate_succ, Array.replicate_zero, List.push_toArray, List.append_toArray, List.nil_append, List.cons_append]
  gi_wp2_with fail
  obtain ⟨W5, hW5⟩ : ∃ W5, ((((w.alloc (.cells #[.slice an ns.length cn, .slice aS ss.length cS] 24)).alloc (.cells #[.slice am m.length cm] 25)).alloc (.cells #[.int .i64 0] 3)).alloc (.cells #[.int .i64 0] 3)).alloc (.cells #[.int .i64 0] 28) = W5 := ⟨_, rfl⟩
  have hsz : W5.heap.size = w.heap.size + 5 := by rw [← hW5]; simp
  have b1 : Boxed W5 (w.heap.size + 1) 25 (.slice am m.length cm) := by
    rw [← hW5]; have := Boxed.new (w.alloc (.cells #[.slice an ns.length cn, .slice aS ss.length cS] 24)) 25 (.slice am m.length cm)
    simp only [World.size_alloc] at this
    exact ((this.alloc _).alloc _).alloc _
  have b2 : Boxed W5 (w.heap.size + 1 + 1) 3 (.int .i64 0) := by
    rw [← hW5]; have := Boxed.new ((w.alloc (.cells #[.slice an ns.length cn, .slice aS ss.length cS] 24)).alloc (.cells #[.slice am m.length cm] 25)) 3 (.int .i64 0)
    simp only [World.size_alloc] at this
    exact (this.alloc _).alloc _
  have b3 : Boxed W5 (w.heap.size + 1 + 1 + 1) 3 (.int .i64 0) := by
    rw [← hW5]; have := Boxed.new (((w.alloc (.cells #[.slice an ns.length cn, .slice aS ss.length cS] 24)).alloc (.cells #[.slice am m.length cm] 25)).alloc (.cells #[.int .i64 0] 3)) 3 (.int .i64 0)
    simp only [World.size_alloc] at this
    exact this.alloc _
  have b4 : Boxed W5 (w.heap.size + 1 + 1 + 1 + 1) 28 (.int .i64 0) := by
    rw [← hW5]; have := Boxed.new ((((w.alloc (.cells #[.slice an ns.length cn, .slice aS ss.length cS] 24)).alloc (.cells #[.slice am m.length cm] 25)).alloc (.cells #[.int .i64 0] 3)).alloc (.cells #[.int .i64 0] 3)) 28 (.int .i64 0)
    simp only [World.size_alloc] at this
    exact this
  have hbel : Below w.heap.size w W5 := by
    rw [← hW5]; exact ((((Later.new _ _).step (Later.new _ _)).step (Later.new _ _)).step (Later.new _ _)).step (Later.new _ _) |>.le
  rw [hW5]
  have hn0 : Rows2 W5 _ ns := hn.later (Later.mk W5 hbel)
  have hs0 : Rows2 W5 _ ss := hs.later (Later.mk W5 hbel)
  have hm0 : Ints W5 _ m := hm.later (Later.mk W5 hbel)
  clear hW5 hn hs hm
  refine ⟨trivial, callsIn_wide.2 ((matched_calls _ _ _ ns ss m _ hn0 hs0 hm0).mono ?_)⟩
  rintro e w' ⟨c, x, rfl, rfl, hC⟩
  have hxs : w.heap.size + 5 ≤ x.w.heap.size := by have := x.size; omega
  by_cases h0 : vmatch ns ss m = 0
  rotate_left
  · have hb : (vmatch ns ss m == 0) = false := by simpa using h0
    have hv := Lib.hid (show unsR ns ss m = (0, 0, vmatch ns ss m) by rw [unsR, if_neg h0])
    have hbb : (vmatch ns ss m != 0) = true := by simpa using h0
    have c2 := b2.cell
    have c3 := b3.cell
    have c4 := b4.cell
    have f2 := b2.frozen
    have f3 := b3.frozen
    have f4 := b4.frozen
    gi_wp2
    have r2 := cell_set3 (x.w) _ _ _ (.int .i64 0) (.int .i64 0) (.int .i64 (vmatch ns ss m)) ((b2.later x)) ((b3.later x)) ((b4.later x)) (by omega) (by omega) (by omega)
    refine ⟨_, (results_cells3 rfl _ _ _ rfl rfl rfl (fun w => by kernel_rfl) (fun w => by kernel_rfl) (fun w => by kernel_rfl) (((r2.1).alloc _).cell) (((r2.2.1).alloc _).cell) (((r2.2.2).alloc _).cell)), ret_three ?_ ?_ ?_, Later.mk _ ?_, rfl⟩
    · rw [hv.out]
    · rw [hv.out]
    · rw [hv.out]
    · have := hbel.trans (x.le.mono (by omega))
      exact (((this.setCell (p := ⟨_, 0, none⟩) (by show _ ≤ w.heap.size + 1 + 1; omega) _).setCell (p := ⟨_, 0, none⟩) (by show _ ≤ w.heap.size + 1 + 1 + 1; omega) _).setCell (p := ⟨_, 0, none⟩) (by show _ ≤ w.heap.size + 1 + 1 + 1 + 1; omega) _).alloc (by simp; omega) _
  · replace hC := (hC h0).court (hn0.later x) (hs0.later x)
    have hv := Lib.hid (show unsR ns ss m = match unsFst (tabOf ns ss) ns.length ss.length m with | some (n, s) => (n, s, 0) | none => (0, 0, 5) by rw [unsR, if_pos h0])
    rw [h0]
    have hml := Lib.hid (vmatch_len h0)
    clear h0
    have hb1 := b1.later x
    have hb2 := b2.later x
    have hb3 := b3.later x
    have hb4 := b4.later x
    have hm1 := hm0.later x
    have hbel1 := hbel.trans (x.le.mono (by omega))
    clear b1 b2 b3 b4 hn0 hs0 hm0 hbel
    obtain ⟨W, hW⟩ : ∃ W, W = x.w := ⟨_, rfl⟩
    rw [← hW] at hb1 hb2 hb3 hb4 hm1 hbel1 hC hxs ⊢
    clear hW hsz x W5
    gi_wp2_with (refine ⟨trivial, ?_⟩; gi_at_call 56; refine (callsIn_wide.2 (mkPairs_calls _ _)).mono ?_; rintro e w' ⟨rfl, rfl⟩)
    obtain ⟨W0, hW0⟩ : ∃ W0, (W.alloc (.cells #[.pointer c] 67)).alloc (.cells #[.pointer c] 67) = W0 := ⟨_, rfl⟩
    have hs0 : W0.heap.size = W.heap.size + 2 := by rw [← hW0]; simp
    have y : ∃ y : Later W, y.w = W0 := ⟨(Later.new _ _).step (Later.new _ _), hW0⟩
    obtain ⟨y, rfl⟩ := y
    have k1 := (hb1.later y).cell
    have k2 := hb2.later y
    have k3 := hb3.later y
    have k4 := hb4.later y
    have k7 : Boxed y.w W.heap.size 67 (.pointer c) := by rw [← hW0]; exact (Boxed.new _ _ _).alloc _
    have k8 : y.w.cell? ⟨W.heap.size + 1, 0, none⟩ = some (.pointer c) := by rw [← hW0]; have := (Boxed.new (W.alloc (.cells #[.pointer c] 67)) 67 (.pointer c)).cell; rwa [World.size_alloc] at this
    have k9 := k7.cell
    have hC0 := hC.later y
    have hm0 := hm1.later y
    have hbel0 := hbel1.trans (y.le.mono (by omega))
    rw [hW0]
    clear hb1 hb2 hb3 hb4 hC hm1 hbel1 hW0
    obtain ⟨W0, hW0⟩ : ∃ W0, W0 = y.w := ⟨_, rfl⟩
    rw [← hW0] at k1 k2 k3 k4 k7 k8 k9 hC0 hm0 hbel0 hs0 ⊢
    clear hW0 y
    have hun : ∀ (x : Later W0) (p : Pr ns.length ss.length), Calls Try.prog 57 #[.pointer c, .agg #[.int .i64 p.1.1, .int .i64 p.1.2], .slice am m.length cm] x.w (Gives (.bool (unsM (tabOf ns ss) m p.1.1 p.1.2)) x.w) :=
      fun x p => unsettles_calls _ ns ss _ _ _ _ m _ (hC0.later x) (hm0.later x) (by have := hml.out; have := p.2.1; omega)
    have l0 : w.heap.size + 1 < W0.heap.size := by omega
    have l1 : W.heap.size < W0.heap.size := by omega
    refine wpIn_rangeFunc_ownH rfl (by decide) (gf := 81) (lb := #[.pointer (some ⟨W.heap.size + 1, 0, none⟩)]) rfl trivial (enters_of Try.func81 (by kernel_rfl) rfl)
      (pairs1_stops _ W0.heap.size (W.heap.size + 1) _ ns ss (tabOf ns ss) W0 rfl (by omega) k8 hC0 (ns.length * ss.length) (Nat.le_refl _)) belowK_t (belowK_b (Nat.le_refl _)) (Below.refl _ _) (fun _ => rfl)
      (fun pre V => (∀ p ∈ pre, unsM (tabOf ns ss) m p.1.1 p.1.2 = false) ∧ Below W0.heap.size W0 V)
      (fun cc pre V => UnsX (tabOf ns ss) m ns.length ss.length (w.heap.size + 1 + 1) cc pre V ∧ Below w.heap.size w V)
      (OwnFrom.and (ownFrom_pure _ _) (ownFrom_below (Nat.le_refl _) (Nat.le_refl _)))
      (fun cc => OwnFrom.and (Own.from (fun s A B row hs hg hr => by
        obtain ⟨pre', p, e1, e2, h1, h2, h3, h4, h5⟩ := hs
        exact ⟨pre', p, e1, e2, h1, h2, boxed_own _ _ (fun _ => _) s A B row h3 hg hr, boxed_own _ _ (fun _ => _) s A B row h4 hg hr, boxed_own _ _ (fun _ => _) s A B row h5 hg hr⟩) _) (ownFrom_below (Nat.le_refl _) (by omega)))
      ⟨by simp, Below.refl _ _⟩
      (fun p a' V => ∃ Bx, W0.heap.size ≤ Bx ∧ Paired V Bx p.1.1 p.1.2 ∧ a' = { tmps := #[.agg #[.slice an ns.length cn, .slice aS ss.length cS], .slice am m.length cm, .pointer (some ⟨w.heap.size, 0, none⟩), .pointer (some ⟨w.heap.size + 1, 0, none⟩), .pointer (some ⟨w.heap.size + 1 + 1, 0, none⟩), .pointer (some ⟨w.heap.size + 1 + 1 + 1, 0, none⟩), .pointer (some ⟨w.heap.size + 1 + 1 + 1 + 1, 0, none⟩), .pointer (some ⟨W.heap.size, 0, none⟩), .int .i64 0, .pointer (some ⟨Bx, 0, none⟩), .tuple #[.pointer c, .int .i64 0], .agg #[.slice an ns.length cn, .slice aS ss.length cS], .slice am m.length cm, .tuple #[.pointer c, .int .i64 0], .pointer c, .int .i64 0, .int .i64 0, .bool false, undef, .pointer c, .func (.func 81) #[] #[.pointer (some ⟨W.heap.size + 1, 0, none⟩)], .agg #[.int .i64 p.1.1, .int .i64 p.1.2], undef, undef, undef, undef, undef, undef, undef, undef], defers := [] })
      ?hAx ?assign ?body ?done ?stop
    case hAx => exact fun p a' s A B row ⟨Bx, h1, h2, h3⟩ hg hr => ⟨Bx, h1, (ownFrom_cells _ (fun _ => True) Bx _ _ _ () A B row ⟨h2, trivial⟩ hg hr).1, h3⟩
    case assign =>
      rintro l pre p V K ⟨hp, hB⟩ hK
      simp only [Pr.enc]
      gi_wp2
      exact hK _ _ ((KeepsOthers.alloc _ _).from _) ((Below.refl _ V).alloc hB.size _) ⟨hp, hB.alloc hB.size _⟩ ⟨V.heap.size, hB.size, Paired.new V _ _, rfl⟩
    case body =>
      rintro l pre p a' V hl ⟨r, hr⟩ ⟨hp, hB⟩ ⟨Bx, hBx, hP, rfl⟩ hlt
      have hun := hun ⟨V, hB⟩ p
      have k1 := (hB.cell (p := ⟨w.heap.size + 1, 0, none⟩) l0).trans k1
      have k9 := (hB.cell (p := ⟨W.heap.size, 0, none⟩) l1).trans k9
      have p0 := hP.cell0
      have p1 := hP.cell1
      cases hu : unsM (tabOf ns ss) m p.1.1 p.1.2
      all_goals
        rw [hu] at hun
        gi_wp2_with (refine ⟨trivial, ?_⟩; gi_at_call 57; refine (CallsIn.inRound l (callsIn_wide.2 hun)).mono ?_; rintro e w' ⟨rfl, z, rfl⟩)
      · exact ⟨KeepsFrom.below z.le _, z.le.mono hB.size, fun q hq => (List.mem_append.1 hq).elim (hp q) (fun e => by rw [List.mem_singleton.1 e]; exact hu), hB.trans (z.le.mono hB.size)⟩
      · have hsV := hB.size
        have hBx2 := hP.lt
        have q2 := k2.later ⟨V, hB⟩
        have q3 := k3.later ⟨V, hB⟩
        have q4 := k4.later ⟨V, hB⟩
        have c2 := q2.cell
        have c3 := q3.cell
        have c4 := q4.cell
        have f2 := q2.frozen
        have f3 := q3.frozen
        have f4 := q4.frozen
        have g2 : w.heap.size + 1 + 1 < V.heap.size := by omega
        have g3 : w.heap.size + 1 + 1 + 1 < V.heap.size := by omega
        have g4 : w.heap.size + 1 + 1 + 1 + 1 < V.heap.size := by omega
        have n2 : w.heap.size + 1 + 1 ≠ Bx := by omega
        have n3 : w.heap.size + 1 + 1 + 1 ≠ Bx := by omega
        have n4 : w.heap.size + 1 + 1 + 1 + 1 ≠ Bx := by omega
        have hmx : Try.prog.follows .mixedOrders = true := by kernel_rfl
        gi_region_with_o (fail)
        all_goals
          gi_wp2
          have r2 := cell_set3 z.w _ _ _ (.int .i64 p.1.1) (.int .i64 p.1.2) (.int .i64 0) (q2.later z) (q3.later z) (q4.later z) (by omega) (by omega) (by omega)
          refine ⟨(KeepsFrom.below z.le _).trans ((((KeepsOthers.setCell _ _ _).trans (KeepsOthers.setCell _ _ _)).trans (KeepsOthers.setCell _ _ _)).trans (KeepsOthers.drew _) |>.from _), ⟨pre, p, rfl, rfl, hp, hu, r2.1, r2.2.1, r2.2.2⟩, ?_⟩
          exact (((((hbel0.trans (hB.mono (by omega))).trans (z.le.mono (show w.heap.size ≤ V.heap.size by omega))).setCell (p := ⟨_, 0, none⟩) (by show _ ≤ w.heap.size + 1 + 1; omega) _).setCell (p := ⟨_, 0, none⟩) (by show _ ≤ w.heap.size + 1 + 1 + 1; omega) _).setCell (p := ⟨_, 0, none⟩) (by show _ ≤ w.heap.size + 1 + 1 + 1 + 1; omega) _).drew
    case done =>
      rintro D xs V hD hall ⟨hne, hB⟩ hK
      have q2 := k2.later ⟨V, hB⟩
      have q3 := k3.later ⟨V, hB⟩
      have q4 := k4.later ⟨V, hB⟩
      have c2 := q2.cell
      have c3 := q3.cell
      have c4 := q4.cell
      have f2 := q2.frozen
      have f3 := q3.frozen
      have f4 := q4.frozen
      have hv2 := Lib.hid (show unsR ns ss m = (0, 0, 5) by
        rw [hv.out, unsFst, List.find?_eq_none.2 ?_]
        intro q hq
        rw [← hall] at hq
        obtain ⟨q', hq', rfl⟩ := List.mem_map.1 hq
        simpa using hne q' hq')
      gi_wp2
      have r2 := cell_set3 V _ _ _ (.int .i64 0) (.int .i64 0) (.int .i64 5) q2 q3 q4 (by omega) (by omega) (by omega)
      have hK' := (((KeepsOthers.setCell V ⟨w.heap.size + 1 + 1, 0, none⟩ (.int .i64 0)).trans (KeepsOthers.setCell _ ⟨w.heap.size + 1 + 1 + 1, 0, none⟩ (.int .i64 0))).trans (KeepsOthers.setCell _ ⟨w.heap.size + 1 + 1 + 1 + 1, 0, none⟩ (.int .i64 5))).same D _ hK rfl
      refine ⟨by simp, .inl ⟨_, _, rfl, run_takeDeferred hK', ?_⟩⟩
      refine ⟨_, results_cells3 rfl _ _ _ rfl rfl rfl (fun w => by kernel_rfl) (fun w => by kernel_rfl) (fun w => by kernel_rfl) (r2.1.put (by omega)).cell (r2.2.1.put (by omega)).cell (r2.2.2.put (by omega)).cell, ret_three ?_ ?_ ?_, Later.mk _ ?_, rfl⟩
      · rw [hv2.out]
      · rw [hv2.out]
      · rw [hv2.out]
      · refine Below.trans ?_ (belowK_b (w := w) (Nat.le_refl _) _ D _ _ (by omega) hK' rfl rfl)
        exact (((hbel0.trans (hB.mono (by omega))).setCell (p := ⟨_, 0, none⟩) (by show _ ≤ w.heap.size + 1 + 1; omega) _).setCell (p := ⟨_, 0, none⟩) (by show _ ≤ w.heap.size + 1 + 1 + 1; omega) _).setCell (p := ⟨_, 0, none⟩) (by show _ ≤ w.heap.size + 1 + 1 + 1 + 1; omega) _
    case stop =>
      rintro D cc pre V hD hpre ⟨⟨pre', p, rfl, rfl, hp', hu, q2, q3, q4⟩, hB⟩ hK
      have hv2 := Lib.hid (show unsR ns ss m = ((p.1.1 : Int), (p.1.2 : Int), 0) by
        have e1 := find_snoc (fun q : Nat × Nat => unsM (tabOf ns ss) m q.1 q.2) (pre'.map (·.1)) p.1 (by
          intro y hy
          obtain ⟨q', hq', rfl⟩ := List.mem_map.1 hy
          exact hp' q' hq') hu
        rw [show pre'.map (·.1) ++ [p.1] = (pre' ++ [p]).map (·.1) by simp] at e1
        rw [hv.out, unsFst, find_prefix _ hpre e1])
      gi_wp2
      refine ⟨by simp, .inl ⟨_, _, rfl, run_takeDeferred hK, ?_⟩⟩
      refine ⟨_, results_cells3 rfl _ _ _ rfl rfl rfl (fun w => by kernel_rfl) (fun w => by kernel_rfl) (fun w => by kernel_rfl) (q2.put (by omega)).cell (q3.put (by omega)).cell (q4.put (by omega)).cell, ret_three ?_ ?_ ?_, Later.mk _ ?_, rfl⟩
      · rw [hv2.out]
      · rw [hv2.out]
      · rw [hv2.out]
      · exact hB.trans (belowK_b (w := w) (Nat.le_refl _) _ D _ _ (by omega) hK rfl rfl)
end Go.Proofs.Ytieaibebnkdmhaa
