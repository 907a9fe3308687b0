import Derived.Test.YtpkgfkeekcgkcaaKK
import Derived.Test.YtpkgfkeekcgkcaaKC
import Derived.RangeFuncOwn
import Derived.Test.YtpkgfkeekcgkcaaKG
import Derived.Test.YtpkgfkeekcgkcaaKD
import Derived.Laws.IdiomCopy
/-  Lists of matches of a call's own; append inside a fence. -/
namespace Go.Proofs.Ytpkgfkeekcgkcaa
open Go.RowKit
theorem wpIn_append_run {F : Fence} {n : Nat} {P : Program} {o : Oper} {a : Act} {w : World} {K : Act → World → Prop} {Q : Exit → Act → World → Prop} (s x : Operand) (t : TypeId)
    (ho : o.op = .call { callee := .builtin .append, args := #[s, x], argTypes := #[t, t] }) (v u : Value) (hs : a.eval s = v) (hx : a.eval x = u) {v' : Value} {w' : World}
    (hr : (Builtin.append_ #[t, t] o.type #[v, u]).run P w = .ok v' w') (h : K (a.put o.dst v') w') : o.wpIn F n P a w K Q := by
  unfold Oper.wpIn
  refine ⟨by simp [Oper.about, ho, resolve, Target.leads, Sem.run_pure], ?_⟩
  rw [Oper.semAt_eq _ _ _ (by rw [ho]; intro c hc'; cases hc')]
  simp [execOp, ho, resolve, invoke, builtin, hs, hx, hr, Result.andThen]
  exact h
theorem wpListIn_append_run {F : Fence} {n : Nat} {P : Program} {ops : Array Oper} {rest : List Oper} {o : Oper} {a : Act} {w : World} {Q : Exit → Act → World → Prop} (hgd : o.guard = none) (s x : Operand) (t : TypeId)
    (ho : o.op = .call { callee := .builtin .append, args := #[s, x], argTypes := #[t, t] }) (v u : Value) (hs : a.eval s = v) (hx : a.eval x = u) {v' : Value} {w' : World}
    (hr : (Builtin.append_ #[t, t] o.type #[v, u]).run P w = .ok v' w') (h : wpListIn F n P ops Q rest (a.put o.dst v') w') : wpListIn F n P ops Q (o :: rest) a w :=
  wpListIn_plain hgd fun _ hK => wpIn_append_run s x t ho v u hs hx hr (hK _ _ h)
theorem info_match : ∃ i : TypeInfo, Try.prog.info? 103 = some i ∧ i.zero = some (.agg #[.int .i64 0, .int .i64 0]) ∧ i.size = 2 ∧ i.bytes = 16 := by
  have h : (Try.prog.info? 103).map (fun i => (i.zero, i.size, i.bytes)) = some (some (.agg #[.int .i64 0, .int .i64 0]), 2, 16) := by kernel_rfl
  obtain ⟨i, hi, hz⟩ := Option.map_eq_some_iff.1 h
  simp only [Prod.mk.injEq] at hz
  exact ⟨i, hi, hz.1, hz.2.1, hz.2.2⟩
/-- a slice of matches of one's own -/
def MtsM (lo : Nat) (w : World) (v : Value) (ps : List (Int × Int)) : Prop := w.ownsRow lo 103 2 v ps.length (flatP ps)
theorem MtsM.nil (lo : Nat) (w : World) : MtsM lo w (.slice none 0 0) [] := World.ownsRow_nil _ _ _ _
theorem MtsM.form {lo : Nat} {w : World} {v : Value} {ps : List (Int × Int)} (h : MtsM lo w v ps) : ∃ a c, v = .slice a ps.length c := by
  obtain ⟨_, ⟨rfl, h0⟩ | ⟨g, cap, cur, rfl, _⟩⟩ := h
  · rw [h0]; exact ⟨_, _, rfl⟩
  · exact ⟨_, _, rfl⟩
theorem MtsM.form' {lo : Nat} {w : World} {v : Value} {ps : List (Int × Int)} (h : MtsM lo w v ps) : ∃ a n c, v = .slice a n c := by
  obtain ⟨a, c, e⟩ := h.form; exact ⟨a, _, c, e⟩
theorem MtsM.prs {lo : Nat} {w : World} {v : Value} {ps : List (Int × Int)} (h : MtsM lo w v ps) (hl : ps.length ≤ 9007199254740992) : Prs w v ps := by
  obtain ⟨h1, ⟨rfl, h0⟩ | ⟨g, cap, cur, rfl, _, hg, hnc, hcm, hcs, htk⟩⟩ := h
  · have : ps = [] := List.eq_nil_of_length_eq_zero h0
    subst this
    exact Prs.nil none 0
  · refine ⟨hl, .inr ⟨g, 0, cap, rfl, hnc, (Array.getElem?_eq_some_iff.1 hg).1, fun k hk => ?_⟩⟩
    have key : ∀ j u, (flatP ps)[j]? = some u → j < ps.length * 2 → w.cell? ⟨g, 0 + j, none⟩ = some u := fun j u hj hlt => by
      rw [← htk, List.getElem?_take, if_pos hlt] at hj
      simp only [World.cell?, hg, Nat.zero_add]
      simpa using hj
    obtain ⟨h2, h3⟩ := flatP_get ps k hk
    exact ⟨key _ _ h2 (by omega), by rw [Nat.add_assoc]; exact key _ _ h3 (by omega)⟩
theorem MtsM.kept {lo : Nat} {w w' : World} {v : Value} {ps : List (Int × Int)} (h : MtsM lo w v ps) {r : Option Nat} (hg : w.grownBy w' r) (hne : v.ownBlock = none ∨ v.ownBlock ≠ r) : MtsM lo w' v ps := World.ownsRow.kept h hg hne
theorem MtsM.later {lo : Nat} {w : World} {v : Value} {ps : List (Int × Int)} (h : MtsM lo w v ps) (x : Later w) : MtsM lo x.w v ps :=
  h.kept (r := none) x.grown (by cases hv : v.ownBlock <;> simp)
theorem MtsM.below {lo : Nat} {w w' : World} {v : Value} {ps : List (Int × Int)} (h : MtsM lo w v ps) (hg : w.grownBy w' v.ownBlock) (hlo : lo ≤ w.heap.size) : Below lo w w' :=
  (Below.refl lo w).grown hg hlo fun k hk => (World.ownsRow.lt h k hk).1
theorem app_mt_at {U : World} {lo : Nat} {v : Value} {ps : List (Int × Int)} (hv : MtsM lo U v ps) (b c : Nat) (p q : Int) (h0 : U.cell? ⟨b, 0, none⟩ = some (.int .i64 p)) (h1 : U.cell? ⟨b, 1, none⟩ = some (.int .i64 q)) (hlo : lo ≤ U.heap.size) (hbig : ps.length + 1 ≤ 1000000000000) (ty : TypeId) :
    ∃ v' w', (Builtin.append_ #[100, 100] ty #[v, .slice (some ⟨b, 0, none⟩) 1 c]).run Try.prog U = .ok v' w' ∧ MtsM lo w' v' (ps ++ [(p, q)]) ∧ U.grownBy w' v.ownBlock ∧ (v'.ownBlock = v.ownBlock ∨ v'.ownBlock = some U.heap.size) := by
  obtain ⟨i, hi, hz, hsz, hby⟩ := info_match
  obtain ⟨v', w', hrun, hown2, hg2, _, h5⟩ := run_append_own_at (P := Try.prog) U lo 100 ty 103 i (.agg #[.int .i64 0, .int .i64 0]) 2 16 Try.underlying100 hi hz hsz hby rfl (by decide) v ps.length _ hv ⟨b, 0, none⟩ 1 c
    (flatP [(p, q)]) (flatP_len _) (by
      intro j u hj
      obtain ⟨k, hk, (⟨rfl, rfl⟩ | ⟨rfl, rfl⟩)⟩ := flatP_at hj
      · obtain rfl : k = 0 := by simpa using hk
        rw [Addr.add_lit]; exact h0
      · obtain rfl : k = 0 := by simpa using hk
        rw [Addr.add_lit]; exact h1) (flatP_one _) (by simp only [maxLen]; omega) (by omega) hlo
  refine ⟨v', w', hrun, ?_, hg2, h5⟩
  rw [← flatP_app] at hown2
  unfold MtsM
  rw [List.length_append]
  exact hown2
theorem flatP_set : ∀ (ps : List (Int × Int)) (k : Nat) (p : Int × Int), ((flatP ps).set (k * 2) (.int .i64 p.1)).set (k * 2 + 1) (.int .i64 p.2) = flatP (ps.set k p)
  | [], k, p => by simp [flatP]
  | q :: ps, 0, p => by simp [flatP]
  | q :: ps, k + 1, p => by
    have ih := flatP_set ps k p
    simp only [flatP, List.flatMap_cons, List.set_cons_succ] at ih ⊢
    rw [← ih, show (k + 1) * 2 = k * 2 + 2 by omega]
    rfl
/-- a store into it -/
theorem MtsM.set {w : World} {lo n c : Nat} {a : Option Addr} {ps : List (Int × Int)} (h : MtsM lo w (.slice a n c) ps) {k : Nat} (hk : k < ps.length) (p : Int × Int) :
    ∃ g, a = some ⟨g, 0, none⟩ ∧ n = ps.length ∧ lo ≤ g ∧ g < w.heap.size ∧ n ≤ c ∧ (∀ j, w.frozen? ⟨g, j, none⟩ = false) ∧ MtsM lo ((w.setCell ⟨g, k * 2, none⟩ (.int .i64 p.1)).setCell ⟨g, k * 2 + 1, none⟩ (.int .i64 p.2)) (.slice a n c) (ps.set k p) ∧ w.grownBy ((w.setCell ⟨g, k * 2, none⟩ (.int .i64 p.1)).setCell ⟨g, k * 2 + 1, none⟩ (.int .i64 p.2)) (some g) := by
  have hown := h
  rcases h.2 with ⟨e, h0⟩ | ⟨g, cap, cur, e, hb, hg, hnc, hcm, hcs, htk⟩
  · omega
  · cases e
    obtain ⟨h1, g1⟩ := World.ownsRow.stored (show w.ownsRow lo 103 2 _ _ _ from hown) (k * 2) (.int .i64 p.1)
    obtain ⟨h2, g2⟩ := World.ownsRow.stored h1 (k * 2 + 1) (.int .i64 p.2)
    refine ⟨g, rfl, rfl, hb, (Array.getElem?_eq_some_iff.1 hg).1, hnc, fun j => World.ownsRow.frozenAt (show w.ownsRow lo 103 2 _ _ _ from hown) j, ?_, grown_trans g1 g2⟩
    show World.ownsRow _ _ _ _ _ _ _
    rw [List.length_set, ← flatP_set]
    exact h2
/-- matches that are gathered in a variable of the call's own -/
structure Gat (W U : World) (c : Nat) (v : Value) (ps : List (Int × Int)) : Prop where
  bel : Below W.heap.size W U
  box : Lin U c 100 [v]
  own : MtsM W.heap.size U v ps
  lo : W.heap.size ≤ c
section
variable {W U U' : World} {c : Nat} {v : Value} {ps : List (Int × Int)}
theorem Gat.ne (h : Gat W U c v ps) : v.ownBlock ≠ some c := own_ne_lin h.own h.box (by decide)
theorem Gat.kept (h : Gat W U c v ps) {r : Option Nat} (hg : U.grownBy U' r) (h1 : some c ≠ r) (h2 : v.ownBlock = none ∨ v.ownBlock ≠ r) (h3 : ∀ k, r = some k → W.heap.size ≤ k) : Gat W U' c v ps :=
  ⟨h.bel.grown hg h.bel.size h3, h.box.kept hg h1, h.own.kept hg h2, h.lo⟩
theorem Gat.later (h : Gat W U c v ps) (x : Later U) : Gat W x.w c v ps := h.kept x.grown (by simp) (by cases v.ownBlock <;> simp) (by simp)
/-- a match more: append, and the store into the variable -/
theorem Gat.app (h : Gat W U c v ps) (b cc : Nat) (p q : Int) (h0 : U.cell? ⟨b, 0, none⟩ = some (.int .i64 p)) (h1 : U.cell? ⟨b, 1, none⟩ = some (.int .i64 q)) (hbig : ps.length + 1 ≤ 1000000000000) (ty : TypeId) :
    ∃ a n m w', (Builtin.append_ #[100, 100] ty #[v, .slice (some ⟨b, 0, none⟩) 1 cc]).run Try.prog U = .ok (.slice a n m) w' ∧ Lin w' c 100 [v] ∧ U.grownBy w' v.ownBlock ∧
      Gat W (w'.setCell ⟨c, 0, none⟩ (.slice a n m)) c (.slice a n m) (ps ++ [(p, q)]) ∧ Below W.heap.size U (w'.setCell ⟨c, 0, none⟩ (.slice a n m)) ∧ KeepsOthers U (w'.setCell ⟨c, 0, none⟩ (.slice a n m)) := by
  obtain ⟨v', w', hr, hP, hg, h5⟩ := app_mt_at h.own b cc p q h0 h1 h.bel.size hbig ty
  obtain ⟨a, n, m, rfl⟩ := hP.form'
  have hb2 : Below W.heap.size W w' := h.bel.trans (h.own.below hg h.bel.size)
  have hl2 := h.box.kept hg (Ne.symm h.ne)
  have hne : (Value.slice a n m).ownBlock ≠ some c := own_ne_lin hP hl2 (by decide)
  exact ⟨a, n, m, w', hr, hl2, hg, ⟨hb2.setCell (p := ⟨c, 0, none⟩) h.lo _, hl2.set 0 _, hP.kept (grownBy_setCell_at w' c 0 _) (.inr hne), h.lo⟩, (h.own.below hg h.bel.size).setCell (p := ⟨c, 0, none⟩) h.lo _,
    (KeepsOthers.of_grownBy hg (fun j o hj ho => by
      obtain ⟨_, hr2 | ⟨g, cap, cur, rfl, _, hg2, _⟩⟩ := h.own
      · rw [hr2.1] at hj; cases hj
      · simp only [Value.ownBlock, Option.some.injEq] at hj
        subst hj
        rw [hg2] at ho
        cases ho
        rfl)).trans (KeepsOthers.setCell _ _ _)⟩
end
end Go.Proofs.Ytpkgfkeekcgkcaa

/-  The library's AppendSeq and Collect, of the matches. -/
namespace Go.Proofs.Ytpkgfkeekcgkcaa
open Go.RowKit Go.Shelf
attribute [local go_sem] Oper.semAt_some
theorem mtI_snoc {a b : List UInt8} (l : List (Mt a b)) (x : Mt a b) : (l ++ [x]).map mtI = l.map mtI ++ [((x.1.1 : Int), (x.1.2 : Int))] := by rw [List.map_append]; rfl
/-- matches, in a slice of the call's own -/
def MtsN (l : List (Int × Int)) (W : World) (e : Ending) (w' : World) : Prop := ∃ v, ∃ x : Later W, e = .returned v ∧ w' = x.w ∧ MtsM W.heap.size x.w v l
set_option maxRecDepth 100000 in
set_option maxHeartbeats 8000000 in
theorem AppendSeq_calls (c2 p mp lo : Nat) (a b : List UInt8) (M : PM) (ha : a.length ≤ 12) (hb : b.length ≤ 12) (W : World) (hD : Pair lo W p mp a b M) (h1 : W.cell? ⟨c2, 0, none⟩ = some (.pointer (some ⟨p, 0, none⟩))) :
    Calls Try.prog 92 #[.slice none 0 0, .func (.func 93) #[] #[.pointer (some ⟨c2, 0, none⟩)]] W (MtsN (matchL a b) W) := by
  have HD := Lib.hid hD
  have HA := Lib.hid ha
  have HB := Lib.hid hb
  have H1 := Lib.hid h1
  have k2 := World.block_lt_of_cell? _ _ h1
  dsimp only at k2
  clear hD ha hb h1
  refine (callsIn_wide (n := 6)).1 ?_
  refine callsIn_of_wp_marks Try.func92 rfl trivial ?_ rfl
  simp only [Try.ntmps92, List.size_toArray, List.length_cons, List.length_nil, Nat.reduceAdd, Nat.reduceSub, Array.replicate_succ, Array.replicate_zero, List.push_toArray, List.append_toArray, List.nil_append, List.cons_append]
  refine wpIn_wide.2 ?_
  go_wp2
  obtain ⟨c, hc⟩ : ∃ c, W.heap.size = c := ⟨_, rfl⟩
  obtain ⟨U0, hU0⟩ : ∃ U0 : Later W, U0.w = W.alloc (.cells #[.slice none 0 0] 100) := ⟨Later.new _ _, rfl⟩
  have hG0 : Gat W U0.w c (.slice none 0 0) [] := by
    rw [hU0, ← hc]
    exact ⟨(Later.new _ _).le, Lin.new W _ [_], MtsM.nil _ _, Nat.le_refl _⟩
  have k1 := (U0.cell k2).trans H1.out
  have k3 := Nat.lt_of_lt_of_le k2 U0.size
  rw [← hU0, hc]
  have HWc := Lib.hid hc
  clear hU0 hc
  refine (wpIn_wide (n := 6)).1 ?_
  refine wpIn_rangeFunc_ownH (F := Fence.wide) (n := 6) rfl (by decide) (gf := 93) (lb := #[.pointer (some ⟨c2, 0, none⟩)]) rfl trivial (enters_of Try.func93 (by kernel_rfl) rfl)
    (matches_stops 5 c2 p lo mp a b M HA.out HB.out W HD.out U0.w U0.le k1) (fun h k => h.t k) (KpM.b U0.size k3) (Below.refl _ _) (fun _ => rfl)
    (fun (pre : List (Mt a b)) U => (∃ v, Gat W U c v (pre.map mtI)) ∧ U0.w.heap.size ≤ U.heap.size)
    (fun _ _ _ => False) ?grw
    (fun _ _ _ _ _ hs _ _ => hs)
    ⟨⟨_, hG0⟩, Nat.le_refl _⟩
    (fun x a' U => ∃ bb, Lin U bb 103 [.int .i64 (x.1.1 : Int), .int .i64 (x.1.2 : Int)] ∧ U0.w.heap.size ≤ bb ∧ a' = { tmps := #[.slice none 0 0, .func (.func 93) #[] #[.pointer (some ⟨c2, 0, none⟩)], .pointer (some ⟨c, 0, none⟩), undef, .slice none 0 0, .pointer (some ⟨bb, 0, none⟩), .func (.func 93) #[] #[.pointer (some ⟨c2, 0, none⟩)], .agg #[.int .i64 (x.1.1 : Int), .int .i64 (x.1.2 : Int)], undef, undef, undef, undef, undef], defers := [] }) ?grx ?assign ?body ?done ?stop
  case grw =>
    rintro pre A B row ⟨⟨v, h1⟩, h5⟩ hg hr
    have hne : ∀ c v T k, A.heap[c]? = some (.cells v T k) → some c ≠ row := fun c v T k hc e => by
      obtain ⟨o, ho, hcl⟩ := (hr c e.symm).2
      rw [hc] at ho
      cases ho
      cases hcl
    refine ⟨⟨v, h1.kept hg (hne _ _ _ _ h1.box) ?_ (fun r e => by have := (hr r e).1; have := U0.size; omega)⟩, Nat.le_trans h5 hg.size⟩
    obtain ⟨_, hr2 | ⟨g, cap, cur, rfl, _, hg2, _⟩⟩ := h1.own
    · rw [hr2.1]; exact .inl rfl
    · exact .inr (hne _ _ _ _ hg2)
  case grx =>
    rintro x a' _ A B row ⟨bb, h1, h2, h3⟩ hg hr
    exact ⟨bb, h1.kept hg (fun e => by
      obtain ⟨o, ho, hcl⟩ := (hr bb e.symm).2
      rw [show A.heap[bb]? = _ from h1] at ho
      cases ho
      cases hcl), h2, h3⟩
  case assign =>
    rintro l pre ⟨⟨i, j⟩, hi, hj, hch⟩ U K ⟨⟨v, h1⟩, h5⟩ hK
    simp only [mtE]
    gi_wp2
    refine hK _ _ (KeepsFrom.of (Later.new U _)) (KpM.of (Later.new U _) h1.bel.size (Nat.lt_of_lt_of_le k3 h5)) ⟨⟨v, h1.later (Later.new U _)⟩, Nat.le_trans h5 (Later.new U _).size⟩ ⟨U.heap.size, Lin.new U _ [_, _], h5, rfl⟩
  case body =>
    rintro l pre ⟨⟨i, j⟩, hi, hj, hch⟩ a' U - - ⟨⟨v, h1⟩, h5⟩ ⟨bb, hbb, hbl, rfl⟩ hlen
    have HMS := Lib.hid (mtI_snoc pre (⟨(i, j), hi, hj, hch⟩ : Mt a b))
    have m0 := hbb.cell (k := 0) rfl
    have m1 := hbb.cell (k := 1) rfl
    have ml := hbb.lt
    have g0 := h1.box.cell (k := 0) rfl
    have gl := h1.box.lt
    have hA := h1.later (Later.new U (.cells #[.int .i64 (i : Int), .int .i64 (j : Int)] 103))
    rw [Later.new_w] at hA
    obtain ⟨a6, n6, m6, w6, hr6, hl6, hg6, hG6, hB6, hK6⟩ := hA.app U.heap.size 1 (i : Int) (j : Int) (by simp [go_sem]) (by simp [go_sem]) (by rw [List.length_map]; omega) 100
    have HR6 := Lib.hid hr6
    have HG6 := Lib.hid hG6
    have v1' := hl6.cell (k := 0) rfl
    have v1f := hl6.frozen 0
    have v1l := hl6.lt
    obtain ⟨v0, n0, m0', rfl⟩ := h1.own.form'
    have hBel := ((Later.new U (.cells #[.int .i64 (i : Int), .int .i64 (j : Int)] 103)).le.mono h1.bel.size).trans hB6
    have HKP := Lib.hid (show KpM W.heap.size c2 U (w6.setCell ⟨c, 0, none⟩ (.slice a6 n6 m6)) from ⟨hBel, hBel.cell (p := ⟨c2, 0, none⟩) k2⟩)
    have HKF := Lib.hid (((KeepsOthers.alloc U (.cells #[.int .i64 (i : Int), .int .i64 (j : Int)] 103)).trans hK6).from U0.w.heap.size)
    have HSZ := Lib.hid (Nat.le_trans h5 hBel.size)
    clear hBel hB6 hK6
    clear hA hr6 hG6 hbb h1
    gi_wp2_with ((with_reducible show wpListIn _ _ _ _ _ (⟨some 11, _, _, _, _, _⟩ :: _) _ _); refine wpListIn_append_run rfl _ _ 100 rfl _ _ rfl rfl HR6.out ?_)
    exact ⟨HKF.out, HKP.out, ⟨_, by rw [HMS.out]; exact HG6.out⟩, HSZ.out⟩
  case done =>
    rintro D ys U hD hys ⟨⟨v, h1⟩, h5⟩ hK
    rw [hys] at h1
    have g0 := h1.box.cell (k := 0) rfl
    have gl := h1.box.lt
    have hbel := h1.bel
    have hown := h1.own
    obtain ⟨v0, n0, m0, rfl⟩ := h1.own.form'
    clear h1
    go_wp2
    refine leaves_marks (by simp) (fun U => Below W.heap.size W U ∧ MtsM W.heap.size U (.slice v0 n0 m0) (matchL a b)) W.heap.size (fun U D hD hK hU => ⟨hU.1.grown (grownBy_putObj' U D (.deferred none)) hU.1.size (fun r e => by cases e; exact hD), hU.2.kept (grownBy_putObj' U D (.deferred none)) ?_⟩) (fun U hU => ?_) [D] _ (by simp) (fun E hE => ?_) ⟨hbel, hown⟩
    · obtain ⟨_, hr2 | ⟨g, cap, cur, e, _, hg2, _⟩⟩ := hU.2
      · rw [hr2.1]; exact .inl rfl
      · cases e
        refine .inr (fun e => ?_)
        simp only [Value.ownBlock, Option.some.injEq] at e
        rw [e, hK] at hg2
        cases hg2
    · refine ⟨_, results_tmp rfl _ _ _, ?_⟩
      exact ⟨.slice v0 n0 m0, ⟨U, hU.1⟩, rfl, rfl, hU.2⟩
    · obtain rfl : E = D := by simpa using hE
      exact ⟨Nat.le_trans U0.size hD, hK⟩
  case stop =>
    rintro D c pre W _ _ h _
    exact h.elim

set_option maxHeartbeats 1000000 in
theorem Collect_calls (c2 p mp lo : Nat) (a b : List UInt8) (M : PM) (ha : a.length ≤ 12) (hb : b.length ≤ 12) (W : World) (hD : Pair lo W p mp a b M) (h1 : W.cell? ⟨c2, 0, none⟩ = some (.pointer (some ⟨p, 0, none⟩))) :
    Calls Try.prog 76 #[.func (.func 93) #[] #[.pointer (some ⟨c2, 0, none⟩)]] W (MtsN (matchL a b) W) := by
  go_enter Try.func76, Try.ntmps76
  go_wp2_with fail
  refine (AppendSeq_calls c2 p mp lo a b M ha hb W hD h1).mono ?_
  rintro e w' ⟨v, x, rfl, rfl, hv⟩
  go_wp2
  go_ret
  exact ⟨v, x, rfl, rfl, hv⟩

end Go.Proofs.Ytpkgfkeekcgkcaa

/-  The program's CheckLabels. -/
namespace Go.Proofs.Ytpkgfkeekcgkcaa
open Go.RowKit
set_option maxRecDepth 100000 in
set_option maxHeartbeats 8000000 in
theorem CheckLabels_calls (a b : List UInt8) (lv : Value) (ls : List Int) (W : World) (hx : Ints W lv ls) : Calls Try.prog 36 #[.string ⟨a.toArray⟩, .string ⟨b.toArray⟩, lv] W (Gives (.tuple #[.int .i64 (lbN a b ls), .int .i64 (lbE a b ls)]) W) := by
  have S : Ins W [] := Ins.nil _
  obtain ⟨al, nl, cl, rfl⟩ : ∃ a n c, lv = .slice a n c := by obtain ⟨a, c, e⟩ := hx.form; exact ⟨a, _, c, e⟩
  have HNL := Lib.hid (show nl = ls.length by obtain ⟨a, c, e⟩ := hx.form; cases e; rfl)
  have hll : nl ≤ 9007199254740992 := by rw [HNL.out]; exact hx.1
  obtain ⟨E, hE⟩ : ∃ E, txtsE a b = E := ⟨_, rfl⟩
  have HE := Lib.hid hE
  by_cases h0 : E = 0
  rotate_left
  · have HR := Lib.hid (show lbN a b ls = 0 ∧ lbE a b ls = E by
      have e : lbE a b ls = E := by rw [lbE, hE, if_pos h0]
      exact ⟨by rw [lbN, e, if_neg h0], e⟩)
    have hne : (E != 0) = true := by simpa using h0
    have HX := Lib.hid (fun W => compare_err a b W (by rw [hE]; exact h0))
    rw [hE] at HX
    clear hE h0
    go_enter Try.func36, Try.ntmps36
    go_wp2_with fail
    refine (HX.out _).mono ?_
    rintro e w' ⟨rfl, hw⟩
    rw [hw]
    clear hw w'
    go_wp2
    refine bodyPost_ret (v := .tuple #[.int .i64 0, .int .i64 E]) (by simp [results, Try.results36, go_sem]) rfl ?_
    exact ⟨by rw [HR.out.1, HR.out.2], Later.self _, rfl⟩
  subst h0
  have hok := txts_ok hE
  have HE0 := Lib.hid hE
  have HOK := Lib.hid hok
  obtain ⟨N, hN⟩ : ∃ N, (matchL a b).length = N := ⟨_, rfl⟩
  have hNb : N ≤ 10000 := by rw [← hN]; exact matchL_len (by omega) (by omega)
  have HN := Lib.hid hN
  clear hE hok hN
  by_cases hlen : nl = N
  rotate_left
  · have HR := Lib.hid (lb_len HE0.out (show ls.length ≠ (matchL a b).length by rw [HN.out, ← HNL.out]; exact hlen))
    have hne : ((nl : Int) != (N : Int)) = true := by simp; omega
    clear hlen
    go_enter Try.func36, Try.ntmps36
    go_wp2_with fail
    refine (compare_ok a b _ HE0.out).mono ?_
    rintro e w' ⟨p, mp, M, y, rfl, rfl, hP, -⟩
    replace hx := hx.later y
    replace S := S.later y
    obtain ⟨Y1, hZ⟩ : ∃ Z : Later W, Z.w = y.w := ⟨y, rfl⟩
    rw [← hZ] at S hx hP ⊢
    clear hZ
    clear y
    go_wp2_with fail
    refine (matches_calls p _).mono ?_
    rintro e w' ⟨rfl, hw⟩
    obtain ⟨y, hy⟩ : ∃ y : Later Y1.w, y.w = Y1.w.alloc (.cells #[.pointer (some ⟨p, 0, none⟩)] 95) := ⟨Later.new _ _, rfl⟩
    have hcb : y.w.cell? ⟨Y1.w.heap.size, 0, none⟩ = some (.pointer (some ⟨p, 0, none⟩)) := by rw [hy]; simp [go_sem]
    rw [hw, ← hy]
    clear hw hy w'
    replace hx := hx.later y
    replace hP := hP.later y
    replace S := S.later y
    obtain ⟨Y2, hZ⟩ : ∃ Z : Later W, Z.w = y.w := ⟨Y1.step (y), rfl⟩
    rw [← hZ] at S hx hP hcb ⊢
    clear hZ
    clear y
    go_wp2_with fail
    refine (Collect_calls _ p mp _ a b M HOK.out.1 HOK.out.2 _ hP hcb).mono ?_
    rintro e w' ⟨v, y, rfl, rfl, hv⟩
    have hmt := hv.prs (by rw [HN.out]; omega)
    clear hP hcb hv
    obtain ⟨am, nm, cm, rfl⟩ : ∃ a n c, v = .slice a n c := by obtain ⟨a, c, e⟩ := hmt.form; exact ⟨a, _, c, e⟩
    obtain rfl : N = nm := by obtain ⟨a, c, e⟩ := hmt.form; cases e; exact HN.out.symm
    replace hx := hx.later y
    replace S := S.later y
    obtain ⟨Y3, hZ⟩ : ∃ Z : Later W, Z.w = y.w := ⟨Y2.step (y), rfl⟩
    rw [← hZ] at S hx hmt ⊢
    clear hZ
    clear y
    go_wp2
    refine bodyPost_ret (v := .tuple #[.int .i64 0, .int .i64 6]) (by simp [results, Try.results36, go_sem]) rfl ?_
    exact ⟨by rw [HR.out.1, HR.out.2], Y3, rfl⟩
  subst hlen
  have HLE := Lib.hid (show ls.length = (matchL a b).length by rw [HN.out, ← HNL.out])
  go_enter Try.func36, Try.ntmps36
  go_wp2_with fail
  refine (compare_ok a b _ HE0.out).mono ?_
  rintro e w' ⟨p, mp, M, y, rfl, rfl, hP, -⟩
  replace hx := hx.later y
  replace S := S.later y
  obtain ⟨Y1, hZ⟩ : ∃ Z : Later W, Z.w = y.w := ⟨y, rfl⟩
  rw [← hZ] at S hx hP ⊢
  clear hZ
  clear y
  go_wp2_with fail
  refine (matches_calls p _).mono ?_
  rintro e w' ⟨rfl, hw⟩
  obtain ⟨y, hy⟩ : ∃ y : Later Y1.w, y.w = Y1.w.alloc (.cells #[.pointer (some ⟨p, 0, none⟩)] 95) := ⟨Later.new _ _, rfl⟩
  have hcb : y.w.cell? ⟨Y1.w.heap.size, 0, none⟩ = some (.pointer (some ⟨p, 0, none⟩)) := by rw [hy]; simp [go_sem]
  rw [hw, ← hy]
  clear hw hy w'
  replace hx := hx.later y
  replace hP := hP.later y
  replace S := S.later y
  obtain ⟨Y2, hZ⟩ : ∃ Z : Later W, Z.w = y.w := ⟨Y1.step (y), rfl⟩
  rw [← hZ] at S hx hP hcb ⊢
  clear hZ
  clear y
  go_wp2_with fail
  refine (Collect_calls _ p mp _ a b M HOK.out.1 HOK.out.2 _ hP hcb).mono ?_
  rintro e w' ⟨v, y, rfl, rfl, hv⟩
  have hmt := hv.prs (by rw [HN.out]; omega)
  clear hP hcb hv
  obtain ⟨am, nm, cm, rfl⟩ : ∃ a n c, v = .slice a n c := by obtain ⟨a, c, e⟩ := hmt.form; exact ⟨a, _, c, e⟩
  obtain rfl : nl = nm := by obtain ⟨a, c, e⟩ := hmt.form; cases e; exact HN.out.symm
  replace hx := hx.later y
  replace S := S.later y
  obtain ⟨Y3, hZ⟩ : ∃ Z : Later W, Z.w = y.w := ⟨Y2.step (y), rfl⟩
  rw [← hZ] at S hx hmt ⊢
  clear hZ
  clear y
  go_wp2
  go_loopw [11, 13, 37] (fun m0 _ i0 wr => ∃ (k : Nat) (V : Later Y3.w), wr = V.w ∧ k ≤ nl ∧ i0 = .int .i64 k ∧ m0 = .int .i64 (mxF ls k) ∧ Hid (∀ j, j < k → outL (nth ls j) = false)) (fun _ _ i0 _ => nl - (intOf i0).toNat)
  case atStart => exact ⟨0, Later.self _, rfl, Nat.zero_le _, rfl, rfl, Lib.hid (fun j hj => absurd hj (Nat.not_lt_zero _))⟩
  obtain ⟨k, V, rfl, hk, rfl, rfl, hJ⟩ := hrel
  by_cases hlt : k < nl
  · obtain ⟨bm, om, km, e, hkm, hbm, hgm⟩ := (hx.later V).at (k := k) (by rw [← HNL.out]; exact hlt)
    injection e with e1 e2 e3
    subst e1 e3
    clear e2
    have p1 := hgm k (by rw [← HNL.out]; exact hlt)
    obtain ⟨z, hz⟩ : ∃ v, nth ls k = v := ⟨_, rfl⟩
    rw [hz] at p1
    clear hgm hkm
    obtain ⟨mx, hmx⟩ : ∃ v, mxF ls k = v := ⟨_, rfl⟩
    rw [hmx]
    obtain ⟨B, hB⟩ : ∃ B, (decide (1 ≤ z) && decide (z ≤ 12)) = B := ⟨_, rfl⟩
    have HBB := Lib.hid hB
    have hO : outL (nth ls k) = !B := by rw [hz, outL, ← hB, Bool.eq_iff_iff]; simp <;> omega
    have HO := Lib.hid hO
    have HZ := Lib.hid hz
    have HMX := Lib.hid hmx
    clear hz hmx hB hO
    obtain ⟨nx, hnx⟩ : ∃ v, max mx z = v := ⟨_, rfl⟩
    have HNX := Lib.hid hnx
    go_wp2_with fail
    refine (within_one z 1 12 _ _ _ (by simp [go_sem]) (by omega)).mono ?_
    rintro e w' ⟨rfl, y, hw⟩
    rw [hw, HBB.out]
    obtain ⟨V2, hV2⟩ : ∃ V2 : Later Y3.w, V2.w = y.w := ⟨(V.step (Later.new _ _)).step y, rfl⟩
    rw [← hV2]
    clear hw hV2 w' y p1
    cases B
    · have HR := Lib.hid (lb_out HE0.out HLE.out (any_at (l := ls) (d := 0) (f := outL) (k := k) (by rw [← HNL.out]; exact hlt) HO.out))
      go_wp2
      refine bodyPost_ret (v := .tuple #[.int .i64 0, .int .i64 3]) (by simp [results, Try.results36, go_sem]) rfl ?_
      exact ⟨by rw [HR.out.1, HR.out.2], Y3.step V2, rfl⟩
    · go_wp2
      go_roundw
      case rel => exact ⟨k + 1, V2, rfl, by omega, by go_num, by rw [mxF, HMX.out, HZ.out, HNX.out], Lib.hid (fun j hj => by
        by_cases h : j = k
        · rw [h]; exact HO.out
        · exact hJ.out j (by omega))⟩
      case measure => simp [intOf] <;> omega
  obtain rfl : nl = k := by omega
  have HOF := Lib.hid (any_off (l := ls) (d := 0) (f := outL) fun j hj => hJ.out j (by rw [HNL.out]; exact hj))
  clear hJ hk hlt
  obtain ⟨mx, hmx⟩ : ∃ v, mxF ls nl = v := ⟨_, rfl⟩
  rw [hmx]
  have HMX := Lib.hid hmx
  clear hmx
  go_wp2
  go_loopw [14, 51] (fun _ i0 wr => ∃ (k : Nat) (V : Later Y3.w), wr = V.w ∧ k ≤ nl ∧ i0 = .int .i64 k ∧ Hid (∀ j i, j < k → j ≤ i → i < nl → badP (matchL a b) ls i j = false)) (fun _ i0 _ => nl - (intOf i0).toNat)
  case atStart => exact ⟨0, V, rfl, Nat.zero_le _, rfl, Lib.hid (fun j i hj => absurd hj (Nat.not_lt_zero _))⟩
  clear V
  obtain ⟨k, V, rfl, hk, rfl, hJ⟩ := hrel
  by_cases hlt : k < nl
  · obtain ⟨bm, om, km, e, hkm, hbm, hgm⟩ := (hmt.later V).at (k := k) (by rw [HN.out]; exact hlt)
    injection e with e1 e2 e3
    subst e1 e3
    clear e2
    obtain ⟨p1, p2⟩ := hgm k (by rw [HN.out]; exact hlt)
    obtain ⟨px, hpx⟩ : ∃ v, (pr (matchL a b) k).1 = v := ⟨_, rfl⟩
    obtain ⟨py, hpy⟩ : ∃ v, (pr (matchL a b) k).2 = v := ⟨_, rfl⟩
    rw [hpx] at p1
    rw [hpy] at p2
    rw [HN.out] at hkm
    have HGM := Lib.hid hgm
    clear hgm
    have HPK := Lib.hid (show pr (matchL a b) k = (px, py) from Prod.ext hpx hpy)
    clear hpx hpy
    obtain ⟨R, hR⟩ : ∃ R, nl - k = R := ⟨_, rfl⟩
    have hRk : k + R = nl := by omega
    have hkc : nl ≤ cm := hkm
    go_wp2
    try rw [hR]
    clear p1 p2 hR
    obtain ⟨tb, htb⟩ : ∃ b, b = V.w.heap.size := ⟨_, rfl⟩
    obtain ⟨Z, hZ⟩ : ∃ Z : Later V.w, Z.w = V.w.alloc (.cells #[.int .i64 px, .int .i64 py] 103) := ⟨Later.new _ _, rfl⟩
    have lZ : Lin Z.w tb 103 [.int .i64 px, .int .i64 py] := by rw [hZ, htb]; exact Lin.new _ _ [_, _]
    rw [← hZ, ← htb]
    clear hZ htb
    go_loopw [16, 60] (fun _ i0 wr => ∃ (l : Nat) (U : Later Z.w), wr = U.w ∧ l ≤ R ∧ i0 = .int .i64 l ∧ Hid (∀ j, j < l → badP (matchL a b) ls (k + j) k = false)) (fun _ i0 _ => R - (intOf i0).toNat)
    case atStart => exact ⟨0, Later.self _, rfl, Nat.zero_le _, rfl, Lib.hid (fun j hj => absurd hj (Nat.not_lt_zero _))⟩
    obtain ⟨l, U, rfl, hl, rfl, hI⟩ := hrel
    by_cases hll2 : l < R
    · obtain ⟨X, hX⟩ : ∃ X : Later Y3.w, X.w = U.w := ⟨(V.step Z).step U, rfl⟩
      obtain ⟨c1, c2⟩ := HGM.out (k + l) (by rw [HN.out]; omega)
      replace c1 := ((Z.step U).cell hbm).trans c1
      replace c2 := ((Z.step U).cell hbm).trans c2
      have hbU := Nat.lt_of_lt_of_le hbm (Z.step U).size
      simp only [Later.step_w] at c1 c2 hbU
      rw [show om + (k + l) * 2 = om + k * 2 + l * 2 by omega] at c1 c2
      obtain ⟨qx, hqx⟩ : ∃ v, (pr (matchL a b) (k + l)).1 = v := ⟨_, rfl⟩
      obtain ⟨qy, hqy⟩ : ∃ v, (pr (matchL a b) (k + l)).2 = v := ⟨_, rfl⟩
      rw [hqx] at c1
      rw [hqy] at c2
      have HQ := Lib.hid (show pr (matchL a b) (k + l) = (qx, qy) from Prod.ext hqx hqy)
      clear hqx hqy
      obtain ⟨bl, ol, kl, e, hkl, hbl, hgl⟩ := (hx.later X).at (k := k) (by rw [← HNL.out]; omega)
      injection e with e1 e2 e3
      subst e1 e3
      clear e2
      have x1 := hgl k (by rw [← HNL.out]; omega)
      have x2 := hgl (k + l) (by rw [← HNL.out]; omega)
      rw [hX] at x1 x2 hbl
      obtain ⟨zk, hzk⟩ : ∃ v, nth ls k = v := ⟨_, rfl⟩
      obtain ⟨zi, hzi⟩ : ∃ v, nth ls (k + l) = v := ⟨_, rfl⟩
      rw [hzk] at x1
      rw [hzi] at x2
      clear hgl hkl
      have hbad : badP (matchL a b) ls (k + l) k = (befP (px, py) (qx, qy) && decide (zi ≤ zk)) := by rw [badP, HPK.out, HQ.out, hzk, hzi]
      clear hzk hzi
      obtain ⟨B1, hB1⟩ : ∃ B, befP (px, py) (qx, qy) = B := ⟨_, rfl⟩
      obtain ⟨B2, hB2⟩ : ∃ B, decide (zi ≤ zk) = B := ⟨_, rfl⟩
      rw [hB1, hB2] at hbad
      have HB1 := Lib.hid hB1
      have HBAD := Lib.hid hbad
      clear hB1 hbad
      have t0 := (lZ.later U).cell (k := 0) rfl
      have t1' := (lZ.later U).cell (k := 1) rfl
      have tl := (lZ.later U).lt
      go_wp2
      clear c1 c2
      obtain ⟨ob, hob⟩ : ∃ b, b = U.w.heap.size := ⟨_, rfl⟩
      obtain ⟨U2, hU2⟩ : ∃ Z : Later U.w, Z.w = U.w.alloc (.cells #[.int .i64 qx, .int .i64 qy] 103) := ⟨Later.new _ _, rfl⟩
      have lO : Lin U2.w ob 103 [.int .i64 qx, .int .i64 qy] := by rw [hU2, hob]; exact Lin.new _ _ [_, _]
      rw [← hU2, ← hob]
      clear hU2 hob
      have o0 := lO.cell (k := 0) rfl
      have o1 := lO.cell (k := 1) rfl
      have ol' := lO.lt
      replace t0 := (U2.cell tl).trans t0
      replace t1' := (U2.cell tl).trans t1'
      replace tl := Nat.lt_of_lt_of_le tl U2.size
      replace x1 := (U2.cell hbl).trans x1
      replace x2 := (U2.cell hbl).trans x2
      replace hbl := Nat.lt_of_lt_of_le hbl U2.size
      clear hbU lO
      cases B1
      · have HBB := Lib.hid (show badP (matchL a b) ls (k + l) k = false by rw [HBAD.out]; exact Bool.false_and _)
        skip
        refine Mix.region_mixL (Mix.kinds [] [2] []) (by kernel_rfl) (by kernel_rfl) ?_
        repeat ((with_reducible refine Mix.atCons ?_); first | refine Mix.skipU (by rfl) rfl (by rfl) ?_ | (refine Mix.val rfl rfl (by rfl) (fun K hK => ?_); go_big_quiet_op; refine hK _ ?_; clear hK K) | (refine Mix.skip (by rfl) ?_; go_frame))
        refine Mix.loud rfl (by rfl) (fun x1 K hK => ?_)
        go_wp2_with fail
        refine (before_calls px py qx qy _).mono ?_
        rintro e w' ⟨rfl, y, rfl⟩
        rw [HB1.out]
        refine hK _ y ?_
        clear hK K
        try go_frame
        skip
        repeat ((with_reducible refine Mix.atCons ?_); first | refine Mix.skipU (by rfl) rfl (by rfl) ?_ | (refine Mix.val rfl rfl (by rfl) (fun K hK => ?_); go_big_quiet_op; refine hK _ ?_; clear hK K) | (refine Mix.skip (by rfl) ?_; go_frame))
        refine Mix.done (fun x2 => ?_)
        obtain ⟨U3, hU3⟩ : ∃ V2 : Later Z.w, V2.w = x2.w := ⟨(((U.step U2).step x1).step y).step x2, rfl⟩
        rw [← hU3]
        clear hU3 x2 y x1 t0 t1' tl o0 o1 ol'
        go_wp2
        go_roundw
        case rel => first | exact ⟨l + 1, U3, rfl, by omega, by go_num, Lib.hid (fun j hj => by
          by_cases h : j = l
          · rw [h]; exact HBB.out
          · exact hI.out j (by omega))⟩ | ((repeat apply Exists.intro); exact ⟨⟨l + 1, U3, rfl, by omega, by go_num, Lib.hid (fun j hj => by
          by_cases h : j = l
          · rw [h]; exact HBB.out
          · exact hI.out j (by omega))⟩, rfl⟩)
        case measure => simp [intOf] <;> omega
      · have HBB := Lib.hid (show badP (matchL a b) ls (k + l) k = B2 by rw [HBAD.out]; exact Bool.true_and _)
        skip
        refine Mix.region_mixL (Mix.kinds [] [2] []) (by kernel_rfl) (by kernel_rfl) ?_
        repeat ((with_reducible refine Mix.atCons ?_); first | refine Mix.skipU (by rfl) rfl (by rfl) ?_ | (refine Mix.val rfl rfl (by rfl) (fun K hK => ?_); go_big_quiet_op; refine hK _ ?_; clear hK K) | (refine Mix.skip (by rfl) ?_; go_frame))
        refine Mix.loud rfl (by rfl) (fun x1 K hK => ?_)
        go_wp2_with fail
        refine (before_calls px py qx qy _).mono ?_
        rintro e w' ⟨rfl, y, rfl⟩
        rw [HB1.out]
        refine hK _ y ?_
        clear hK K
        try go_frame
        skip
        repeat ((with_reducible refine Mix.atCons ?_); first | refine Mix.skipU (by rfl) rfl (by rfl) ?_ | (refine Mix.val rfl rfl (by rfl) (fun K hK => ?_); go_big_quiet_op; refine hK _ ?_; clear hK K) | (refine Mix.skip (by rfl) ?_; go_frame))
        refine Mix.done (fun x2 => ?_)
        obtain ⟨U3, hU3⟩ : ∃ V2 : Later Z.w, V2.w = x2.w := ⟨(((U.step U2).step x1).step y).step x2, rfl⟩
        rw [← hU3]
        clear hU3 x2 y x1 t0 t1' tl o0 o1 ol'
        cases B2
        · go_wp2
          go_roundw
          case rel => first | exact ⟨l + 1, U3, rfl, by omega, by go_num, Lib.hid (fun j hj => by
            by_cases h : j = l
            · rw [h]; exact HBB.out
            · exact hI.out j (by omega))⟩ | ((repeat apply Exists.intro); exact ⟨⟨l + 1, U3, rfl, by omega, by go_num, Lib.hid (fun j hj => by
            by_cases h : j = l
            · rw [h]; exact HBB.out
            · exact hI.out j (by omega))⟩, rfl⟩)
          case measure => simp [intOf] <;> omega
        · have HR := Lib.hid (lb_bad HE0.out HLE.out HOF.out (by
            have hl0 : l ≠ 0 := fun e => by
              have h1 := HB1.out
              have h2 := HQ.out
              rw [e, Nat.add_zero, HPK.out] at h2
              cases h2
              rw [befP] at h1
              simp at h1
            exact List.any_eq_true.2 ⟨k + l, List.mem_range.2 (by rw [HN.out]; omega), List.any_eq_true.2 ⟨k, List.mem_range.2 (by omega), HBB.out⟩⟩))
          go_wp2
          refine bodyPost_ret (v := .tuple #[.int .i64 0, .int .i64 14]) (by simp [results, Try.results36, go_sem]) rfl ?_
          exact ⟨by rw [HR.out.1, HR.out.2], Y3.step ((V.step Z).step U3), rfl⟩
    obtain rfl : l = R := by omega
    go_wp2
    go_roundw
    case rel => first | exact ⟨k + 1, (V.step Z).step U, rfl, by omega, by go_num, Lib.hid (fun j i hj hji hi => by
      by_cases h : j = k
      · obtain ⟨d, rfl⟩ : ∃ d, i = k + d := ⟨i - k, by omega⟩
        rw [h]; exact hI.out d (by omega)
      · exact hJ.out j i (by omega) hji hi)⟩ | ((repeat apply Exists.intro); exact ⟨⟨k + 1, (V.step Z).step U, rfl, by omega, by go_num, Lib.hid (fun j i hj hji hi => by
      by_cases h : j = k
      · obtain ⟨d, rfl⟩ : ∃ d, i = k + d := ⟨i - k, by omega⟩
        rw [h]; exact hI.out d (by omega)
      · exact hJ.out j i (by omega) hji hi)⟩, rfl⟩)
    case measure => simp [intOf] <;> omega
  obtain rfl : nl = k := by omega
  have HR := Lib.hid (lb_ok HE0.out HLE.out HOF.out (by
    cases h : anyB (matchL a b) ls
    · rfl
    · obtain ⟨i, hi, h1⟩ := List.any_eq_true.1 h
      obtain ⟨j, hj, h2⟩ := List.any_eq_true.1 h1
      have hi := List.mem_range.1 hi
      have hj := List.mem_range.1 hj
      rw [HN.out] at hi
      rw [hJ.out j i (by omega) (by omega) hi] at h2
      cases h2))
  go_wp2
  refine bodyPost_ret (v := .tuple #[.int .i64 mx, .int .i64 0]) (by simp [results, Try.results36, go_sem]) rfl ?_
  exact ⟨by rw [HR.out.1, HR.out.2, ← HNL.out, HMX.out], Y3.step V, rfl⟩
end Go.Proofs.Ytpkgfkeekcgkcaa

/-  The definitions' labels are the program's: the length of the longest common part that ends there; with no program in sight. -/
namespace Go.Proofs.Ytpkgfkeekcgkcaa
open Go.RowKit
open Lcs (lc ch)
def lcP (a b : List UInt8) (p : Int × Int) : Int := ((lc a b p.1.toNat p.2.toNat + 1 : Nat) : Int)
def lexP (p q : Int × Int) : Prop := p.1 < q.1 ∨ (p.1 = q.1 ∧ p.2 < q.2)
theorem mtR_lex (a b : List UInt8) (i j : Nat) : (mtR a b i j).Pairwise lexP := by
  rw [mtR, List.pairwise_map]
  exact (List.pairwise_lt_range.filter _).imp fun h => .inr ⟨rfl, by omega⟩
theorem mtL_lex (a b : List UInt8) : ∀ i, (mtL a b i).Pairwise lexP
  | 0 => by simp [mtL]
  | i + 1 => by
    rw [mtL_succ]
    refine List.pairwise_append.2 ⟨mtL_lex a b i, mtR_lex a b i _, fun p hp q hq => ?_⟩
    obtain ⟨y, rfl, _, _⟩ := mtR_mem.1 hq
    rw [mtL, List.mem_flatMap] at hp
    obtain ⟨x, hx, hp⟩ := hp
    obtain ⟨z, rfl, _, _⟩ := mtR_mem.1 hp
    have := List.mem_range.1 hx
    exact .inl (by dsimp only; omega)
theorem matchL_at {a b : List UInt8} {i : Nat} (hi : i < (matchL a b).length) : ∃ x y : Nat, pr (matchL a b) i = ((x : Int), (y : Int)) ∧ x < a.length ∧ y < b.length ∧ ch a x = ch b y := by
  rw [pr_eq hi]
  exact matchL_mem.1 (List.getElem_mem hi)
theorem matchL_lt {a b : List UInt8} {i j : Nat} (hi : i < (matchL a b).length) (hj : j < i) : lexP (pr (matchL a b) j) (pr (matchL a b) i) := by
  rw [pr_eq hi, pr_eq (k := j) (Nat.lt_trans hj hi)]
  exact List.pairwise_iff_getElem.1 (mtL_lex a b a.length) j i (Nat.lt_trans hj hi) hi hj
theorem labN_up (ps : List (Int × Int)) (ls : List Int) (i : Nat) : ∀ j, (1 ≤ labN ps ls i j) ∧ (∀ k, k < j → befP (pr ps k) (pr ps i) = true → nth ls k + 1 ≤ labN ps ls i j) ∧ (labN ps ls i j = 1 ∨ ∃ k, k < j ∧ befP (pr ps k) (pr ps i) = true ∧ labN ps ls i j = nth ls k + 1)
  | 0 => ⟨by rw [labN]; omega, fun k hk => absurd hk (Nat.not_lt_zero _), .inl rfl⟩
  | j + 1 => by
    obtain ⟨h1, h2, h3⟩ := labN_up ps ls i j
    rw [labN]
    by_cases hb : befP (pr ps j) (pr ps i) = true
    · rw [if_pos hb]
      refine ⟨by omega, fun k hk hkb => ?_, ?_⟩
      · by_cases e : k = j
        · subst e; omega
        · have := h2 k (by omega) hkb; omega
      · rcases Int.le_total (labN ps ls i j) (nth ls j + 1) with h | h
        · exact .inr ⟨j, by omega, hb, by omega⟩
        · rcases h3 with h3 | ⟨k, hk, hkb, h3⟩
          · exact .inl (by omega)
          · exact .inr ⟨k, by omega, hkb, by omega⟩
    · rw [if_neg hb]
      refine ⟨h1, fun k hk hkb => ?_, ?_⟩
      · by_cases e : k = j
        · subst e; exact absurd hkb hb
        · exact h2 k (by omega) hkb
      · rcases h3 with h3 | ⟨k, hk, hkb, h3⟩
        · exact .inl h3
        · exact .inr ⟨k, by omega, hkb, h3⟩
theorem lab_eq (a b : List UInt8) : ∀ i, i ≤ (matchL a b).length → labL (matchL a b) i = ((matchL a b).take i).map (lcP a b)
  | 0, _ => rfl
  | i + 1, hi => by
    have ih := lab_eq a b i (by omega)
    obtain ⟨x, y, hp, hx, hy, hc⟩ := matchL_at (a := a) (b := b) (i := i) (by omega)
    have hnth : ∀ k, k < i → nth (labL (matchL a b) i) k = lcP a b (pr (matchL a b) k) := fun k hk => by
      rw [ih, nth_eq (by rw [List.length_map, List.length_take]; omega), List.getElem_map, List.getElem_take, pr_eq (by omega)]
    rw [labL, ih, List.take_add_one, List.map_append, ← ih]
    have hget : (matchL a b)[i]? = some (pr (matchL a b) i) := by rw [pr_eq (by omega)]; exact List.getElem?_eq_getElem (by omega)
    rw [hget]
    congr 1
    show [_] = [_]
    congr 1
    obtain ⟨h1, h2, h3⟩ := labN_up (matchL a b) (labL (matchL a b) i) i i
    have hl : lcP a b (pr (matchL a b) i) = ((lc a b x y + 1 : Nat) : Int) := by rw [hp, lcP, Int.toNat_natCast, Int.toNat_natCast]
    rw [hl]
    refine Int.le_antisymm ?_ ?_
    · rcases h3 with h3 | ⟨k, hk, hkb, h3⟩
      · rw [h3]; omega
      · rw [h3, hnth k hk]
        obtain ⟨x', y', hp', hx', hy', hc'⟩ := matchL_at (a := a) (b := b) (i := k) (by omega)
        rw [hp, hp', befP] at hkb
        simp only [Bool.and_eq_true, decide_eq_true_eq] at hkb
        rw [hp', lcP, Int.toNat_natCast, Int.toNat_natCast]
        have := Lcs.lc_mono a b (show x' + 1 ≤ x by omega) (show y' + 1 ≤ y by omega)
        rw [lc_match hc'] at this
        omega
    · rcases Nat.eq_zero_or_pos (lc a b x y) with h | h
      · omega
      · obtain ⟨x', y', hx', hy', hc', he⟩ := lc_top a b x y h
        have hm : ((x' : Int), (y' : Int)) ∈ matchL a b := matchL_mem.2 ⟨x', y', rfl, by omega, by omega, hc'⟩
        obtain ⟨k, hk, hek⟩ := List.mem_iff_getElem.1 hm
        have hpk : pr (matchL a b) k = ((x' : Int), (y' : Int)) := by rw [pr_eq hk]; exact hek
        have hki : k < i := by
          rcases Nat.lt_trichotomy k i with h9 | h9 | h9
          · exact h9
          · subst h9
            rw [hp] at hpk
            simp only [Prod.mk.injEq] at hpk
            omega
          · have h8 := matchL_lt hk h9
            rw [hp, hpk, lexP] at h8
            dsimp only at h8
            omega
        have := h2 k hki (by
          rw [hp, hpk, befP]
          simp only [Bool.and_eq_true, decide_eq_true_eq]
          omega)
        rw [hnth k hki, hpk, lcP, Int.toNat_natCast, Int.toNat_natCast] at this
        omega
theorem labs_eq (a b : List UInt8) : labsL a b = (matchL a b).map (lcP a b) := by
  rw [labsL, lab_eq a b _ (Nat.le_refl _), List.take_length]
end Go.Proofs.Ytpkgfkeekcgkcaa

/-  The program's Labels. -/
namespace Go.Proofs.Ytpkgfkeekcgkcaa
open Go.RowKit Go.Shelf
open Lcs (lc ch)
attribute [local go_sem] Oper.semAt_some
theorem copy_ints (w : World) (g : Nat) (l : List Int) (a : Option Addr) (n c : Nat) (ty : TypeId) (hn : n = l.length) (hg : w.heap[g]? = some (.cells (madeCells #[.int .i64 0] n) 3)) (hl : Ints w (.slice a n c) l) :
    ∃ V : World, (Builtin.copy_ #[22, 22] ty #[.slice (some ⟨g, 0, none⟩) n n, .slice a n c]).run Try.prog w = .ok (goInt n) V ∧ Below g w V ∧ Ints V (.slice (some ⟨g, 0, none⟩) n n) l := by
  subst hn
  by_cases h0 : l.length = 0
  · refine ⟨w, ?_, Below.refl _ _, ?_⟩
    · rw [h0]; exact run_copy_none (P := Try.prog) w _ _ ty 3 _ _ 0 0 0 _ Try.underlying22 (by kernel_rfl) rfl
    · have : l = [] := List.eq_nil_of_length_eq_zero h0
      subst this
      exact Ints.nil _ _
  · obtain ⟨bl, ol, cl, e, hcl, hbl, hgl⟩ := hl.at (k := 0) (by omega)
    cases e
    have hsz : (madeCells #[Value.int .i64 0] l.length).size = l.length := by simp [madeCells]
    have hr := run_copy_row (P := Try.prog) w 22 22 ty 3 g 0 l.length l.length ⟨bl, ol, none⟩ l.length c _ _ (l.map (Value.int .i64)) Try.underlying22 (by kernel_rfl) hg (by rw [List.length_map]; exact (Nat.min_self _).symm)
      (fun j v hj => by
        rw [List.getElem?_map] at hj
        obtain ⟨y, hy, rfl⟩ := Option.map_eq_some_iff.1 hj
        have hjl := (List.getElem?_eq_some_iff.1 hy).1
        have := hgl j hjl
        rw [nth_eq hjl, (List.getElem?_eq_some_iff.1 hy).2] at this
        rw [Addr.add_lit]
        exact this) (by rw [hsz, List.length_map]; omega) (fun v hv => by obtain ⟨y, _, rfl⟩ := List.mem_map.1 hv; rfl)
    rw [List.length_map, List.take_zero, List.nil_append, Nat.zero_add, List.drop_of_length_le (by rw [Array.length_toList, hsz]; exact Nat.le_refl _), List.append_nil] at hr
    have hh := setRow_heap w g _ (l.map (Value.int .i64)).toArray 3 (0, 0) hg
    refine ⟨_, hr, ⟨rfl, rfl, rfl, by simp [World.setRow], fun k hk => setRow_other w g k _ (by omega)⟩, hl.1, .inr ⟨g, 0, l.length, rfl, Nat.le_refl _, (Array.getElem?_eq_some_iff.1 hh).1, fun k hk => ?_⟩⟩
    simp only [World.cell?, hh, Nat.zero_add]
    simp [nth_eq hk, hk]

theorem Ints.closed {U : World} {D : Nat} {v : Value} {xs : List Int} (hK : U.heap[D]? = some (.deferred (some []))) (h : Ints U v xs) : Ints (U.putObj D (.deferred none)) v xs := by
  obtain ⟨h1, h2 | ⟨b, off, cap, hv, hl, hb, hc⟩⟩ := h
  · exact ⟨h1, .inl h2⟩
  · refine ⟨h1, .inr ⟨b, off, cap, hv, hl, Nat.lt_of_lt_of_le hb (grownBy_putObj' U D (.deferred none)).size, fun k hk => ?_⟩⟩
    have h3 := hc k hk
    have hne : b ≠ D := fun e => by
      simp only [World.cell?, e, hK] at h3
      cases h3
    exact (World.cell?_of_block (World.putObj_heap_other hne)).trans h3
/-- numbers that are gathered in a variable of the call's own -/
structure GatI (W U : World) (c : Nat) (v : Value) (xs : List Int) : Prop where
  bel : Below W.heap.size W U
  box : Lin U c 22 [v]
  own : IntsM W.heap.size U v xs
  lo : W.heap.size ≤ c
section
variable {W U U' : World} {c : Nat} {v : Value} {xs : List Int}
theorem GatI.ne (h : GatI W U c v xs) : v.ownBlock ≠ some c := own_ne_lin h.own h.box (by decide)
theorem GatI.kept (h : GatI W U c v xs) {r : Option Nat} (hg : U.grownBy U' r) (h1 : some c ≠ r) (h2 : v.ownBlock = none ∨ v.ownBlock ≠ r) (h3 : ∀ k, r = some k → W.heap.size ≤ k) : GatI W U' c v xs :=
  ⟨h.bel.grown hg h.bel.size h3, h.box.kept hg h1, World.ownsRow.kept h.own hg h2, h.lo⟩
theorem GatI.later (h : GatI W U c v xs) (x : Later U) : GatI W x.w c v xs := h.kept x.grown (by simp) (by cases v.ownBlock <;> simp) (by simp)
theorem GatI.app (h : GatI W U c v xs) (b cc : Nat) (y : Int) (h0 : U.cell? ⟨b, 0, none⟩ = some (.int .i64 y)) (hbig : xs.length + 1 ≤ 1000000000000) (ty : TypeId) :
    ∃ a n m w', (Builtin.append_ #[22, 22] ty #[v, .slice (some ⟨b, 0, none⟩) 1 cc]).run Try.prog U = .ok (.slice a n m) w' ∧ Lin w' c 22 [v] ∧ U.grownBy w' v.ownBlock ∧
      GatI W (w'.setCell ⟨c, 0, none⟩ (.slice a n m)) c (.slice a n m) (xs ++ [y]) ∧ Below W.heap.size U (w'.setCell ⟨c, 0, none⟩ (.slice a n m)) ∧ KeepsOthers U (w'.setCell ⟨c, 0, none⟩ (.slice a n m)) := by
  obtain ⟨v', w', hr, hP, hg, h5⟩ := app_num_at h.own b cc y h0 h.bel.size hbig ty
  obtain ⟨a, n, m, rfl⟩ := IntsM.form' hP
  have hbl : Below W.heap.size U w' := (Below.refl _ U).grown hg h.bel.size fun k hk => (World.ownsRow.lt h.own k hk).1
  have hb2 : Below W.heap.size W w' := h.bel.trans hbl
  have hl2 := h.box.kept hg (Ne.symm h.ne)
  have hne : (Value.slice a n m).ownBlock ≠ some c := own_ne_lin hP hl2 (by decide)
  exact ⟨a, n, m, w', hr, hl2, hg, ⟨hb2.setCell (p := ⟨c, 0, none⟩) h.lo _, hl2.set 0 _, World.ownsRow.kept hP (grownBy_setCell_at w' c 0 _) (.inr hne), h.lo⟩, hbl.setCell (p := ⟨c, 0, none⟩) h.lo _,
    (KeepsOthers.of_grownBy hg (fun j o hj ho => by
      obtain ⟨_, hr2 | ⟨g, cap, cur, rfl, _, hg2, _⟩⟩ := h.own
      · rw [hr2.1] at hj; cases hj
      · simp only [Value.ownBlock, Option.some.injEq] at hj
        subst hj
        rw [hg2] at ho
        cases ho
        rfl)).trans (KeepsOthers.setCell _ _ _)⟩
end
set_option maxRecDepth 100000 in
set_option maxHeartbeats 8000000 in
theorem Labels_calls (a b : List UInt8) (W : World) : Calls Try.prog 39 #[.string ⟨a.toArray⟩, .string ⟨b.toArray⟩] W (GivesLE (labelsL a b) (txtsE a b) W) := by
  by_cases h : txtsE a b = 0
  · have HE := Lib.hid (show labelsL a b = (matchL a b).map (lcP a b) ∧ txtsE a b = 0 from ⟨by rw [labelsL, if_pos h, labs_eq], h⟩)
    obtain ⟨ha, hb⟩ := txts_ok h
    have HH := Lib.hid h
    have HA := Lib.hid ha
    have HB := Lib.hid hb
    have HML := Lib.hid (matchL_len (a := a) (b := b) (by omega) (by omega))
    clear h ha hb
    refine (callsIn_wide (n := 6)).1 ?_
    refine callsIn_of_wp_marks Try.func39 rfl trivial ?_ rfl
    simp only [Try.ntmps39, List.size_toArray, List.length_cons, List.length_nil, Nat.reduceAdd, Nat.reduceSub, Array.replicate_succ, Array.replicate_zero, List.push_toArray, List.append_toArray, List.nil_append, List.cons_append]
    refine wpIn_wide.2 ?_
    go_wp2_with fail
    refine (compare_ok a b _ HH.out).mono ?_
    rintro e w' ⟨p, mp, M, x, rfl, rfl, hP, hM⟩
    have HM := Lib.hid hM
    clear hM
    go_wp2_with fail
    refine (matches_calls p _).mono ?_
    rintro e w' ⟨rfl, rfl⟩
    go_wp2
    obtain ⟨c6, hc6⟩ : ∃ c, x.w.heap.size = c := ⟨_, rfl⟩
    obtain ⟨c8, hc8⟩ : ∃ c, x.w.heap.size + 1 = c := ⟨_, rfl⟩
    obtain ⟨c2, hc2⟩ : ∃ c, x.w.heap.size + 1 + 1 = c := ⟨_, rfl⟩
    obtain ⟨U0, hU0⟩ : ∃ U0 : Later x.w, U0.w = ((x.w.alloc (.cells #[.pointer (some ⟨p, 0, none⟩)] 95)).alloc (.cells #[.slice none 0 0] 22)).alloc (.cells #[.pointer (some ⟨p, 0, none⟩)] 95) := ⟨((Later.new _ _).step (Later.new _ _)).step (Later.new _ _), rfl⟩
    have hG0 : GatI x.w U0.w c8 (.slice none 0 0) [] := by
      rw [hU0]
      refine ⟨(((Later.new _ _).step (Later.new _ _)).step (Later.new _ _)).le, ?_, World.ownsRow_nil _ _ _ _, by omega⟩
      have h9 := (Lin.new (x.w.alloc (.cells #[.pointer (some ⟨p, 0, none⟩)] 95)) 22 [.slice none 0 0]).later (Later.new _ (.cells #[.pointer (some ⟨p, 0, none⟩)] 95))
      rw [World.size_alloc, hc8] at h9
      exact h9
    have hL6 : Lin U0.w c6 95 [.pointer (some ⟨p, 0, none⟩)] := by
      rw [hU0, ← hc6]; exact ((Lin.new x.w _ [_]).later (Later.new _ _)).later (Later.new _ _)
    have hL2 : Lin U0.w c2 95 [.pointer (some ⟨p, 0, none⟩)] := by
      have h9 := Lin.new ((x.w.alloc (.cells #[.pointer (some ⟨p, 0, none⟩)] 95)).alloc (.cells #[.slice none 0 0] 22)) 95 [.pointer (some ⟨p, 0, none⟩)]
      rw [World.size_alloc, World.size_alloc, hc2] at h9
      rw [hU0]; exact h9
    rw [← hU0, hc2, hc8, hc6]
    have hn6 : c6 ≠ c8 := by omega
    have hn2 : c2 ≠ c8 := by omega
    have hxc : x.w.heap.size ≤ c6 := Nat.le_of_eq hc6
    have hxc2 : x.w.heap.size ≤ c2 := by omega
    clear hU0 hc6 hc8 hc2
    have HP := Lib.hid hP
    clear hP
    refine (wpIn_wide (n := 6)).1 ?_
    refine wpIn_rangeFunc_ownH (F := Fence.wide) (n := 6) rfl (by decide) (gf := 93) (lb := #[.pointer (some ⟨c2, 0, none⟩)]) rfl trivial (enters_of Try.func93 (by kernel_rfl) rfl)
      (matches_stops 5 c2 p _ mp a b M HA.out HB.out x.w HP.out U0.w U0.le (hL2.cell (k := 0) rfl)) (fun h k => h.t k) (KpM.b U0.size hL2.lt) (Below.refl _ _) (fun _ => rfl)
      (fun (pre : List (Mt a b)) U => (∃ v, GatI x.w U c8 v ((pre.map mtI).map (lcP a b))) ∧ Lin U c6 95 [.pointer (some ⟨p, 0, none⟩)] ∧ Lin U c2 95 [.pointer (some ⟨p, 0, none⟩)] ∧ U0.w.heap.size ≤ U.heap.size)
      (fun _ _ _ => False) ?grw
      (fun _ _ _ _ _ hs _ _ => hs)
      ⟨⟨_, hG0⟩, hL6, hL2, Nat.le_refl _⟩
      (fun x a' U => ∃ bb, Lin U bb 103 [.int .i64 (x.1.1 : Int), .int .i64 (x.1.2 : Int)] ∧ U0.w.heap.size ≤ bb ∧ a' = { tmps := #[.string ⟨a.toArray⟩, .string ⟨b.toArray⟩, undef, undef, .slice none 0 0, .int .i64 0, .pointer (some ⟨c6, 0, none⟩), .int .i64 0, .pointer (some ⟨c8, 0, none⟩), .pointer (some ⟨bb, 0, none⟩), undef, .tuple #[.pointer (some ⟨p, 0, none⟩), .int .i64 0], .string ⟨a.toArray⟩, .string ⟨b.toArray⟩, .tuple #[.pointer (some ⟨p, 0, none⟩), .int .i64 0], .pointer (some ⟨p, 0, none⟩), .int .i64 0, .int .i64 0, .bool false, undef, .pointer (some ⟨p, 0, none⟩), .func (.func 93) #[] #[.pointer (some ⟨c2, 0, none⟩)], .agg #[.int .i64 (x.1.1 : Int), .int .i64 (x.1.2 : Int)], undef, undef, undef, undef, undef, undef, undef, undef, undef, undef, undef, undef, undef, undef, undef, undef], defers := [] }) ?grx ?assign ?body ?done ?stop
    case grw =>
      rintro pre A B row ⟨⟨v, h1⟩, h2, h3, h5⟩ hg hr
      have hne : ∀ c v T k, A.heap[c]? = some (.cells v T k) → some c ≠ row := fun c v T k hc e => by
        obtain ⟨o, ho, hcl⟩ := (hr c e.symm).2
        rw [hc] at ho
        cases ho
        cases hcl
      refine ⟨⟨v, h1.kept hg (hne _ _ _ _ h1.box) ?_ (fun r e => by have := (hr r e).1; have := U0.size; omega)⟩, h2.kept hg (hne _ _ _ _ h2), h3.kept hg (hne _ _ _ _ h3), Nat.le_trans h5 hg.size⟩
      obtain ⟨_, hr2 | ⟨g, cap, cur, rfl, _, hg2, _⟩⟩ := h1.own
      · rw [hr2.1]; exact .inl rfl
      · exact .inr (hne _ _ _ _ hg2)
    case grx =>
      rintro x a' _ A B row ⟨bb, h1, h2, h3⟩ hg hr
      exact ⟨bb, h1.kept hg (fun e => by
        obtain ⟨o, ho, hcl⟩ := (hr bb e.symm).2
        rw [show A.heap[bb]? = _ from h1] at ho
        cases ho
        cases hcl), h2, h3⟩
    case assign =>
      rintro l pre ⟨⟨i, j⟩, hi, hj, hch⟩ U K ⟨⟨v, h1⟩, h2, h3, h5⟩ hK
      simp only [mtE]
      gi_wp2
      refine hK _ _ (KeepsFrom.of (Later.new U _)) (KpM.of (Later.new U _) h1.bel.size h3.lt) ⟨⟨v, h1.later (Later.new U _)⟩, h2.later (Later.new U _), h3.later (Later.new U _), Nat.le_trans h5 (Later.new U _).size⟩ ⟨U.heap.size, Lin.new U _ [_, _], h5, rfl⟩
    case body =>
      rintro l pre ⟨⟨i, j⟩, hi, hj, hch⟩ a' U - - ⟨⟨v, h1⟩, h2, h3, h5⟩ ⟨bb, hbb, hbl, rfl⟩ hlen
      have HMS := Lib.hid (show ((pre ++ [(⟨(i, j), hi, hj, hch⟩ : Mt a b)]).map mtI).map (lcP a b) = (pre.map mtI).map (lcP a b) ++ [((lc a b i j + 1 : Nat) : Int)] by
        rw [List.map_append, List.map_append]; rfl)
      obtain ⟨L, hL⟩ : ∃ v, lc a b i j = v := ⟨_, rfl⟩
      rw [hL] at HMS
      have hL12 : L ≤ 12 := by rw [← hL]; exact Nat.le_trans (lc_le' a b i j) (by have := HB.out; omega)
      have hlab : Tb.get M ((i : Int), (j : Int)) = some ((L + 1 : Nat) : Int) := by
        rw [HM.out, labO, if_pos (by
          refine ⟨by dsimp only; omega, by dsimp only; omega, .inl (by dsimp only; omega), by dsimp only; omega, ?_⟩
          dsimp only
          rw [Int.toNat_natCast, Int.toNat_natCast]; exact hch)]
        dsimp only
        rw [Int.toNat_natCast, Int.toNat_natCast, hL]
      have hPU := HP.out.later ⟨U, h1.bel⟩
      dsimp only at hPU
      have hlook := fun (x : Later U) => (hPU.later x).tab.look match_keys Try.underlying112 (z := .int .i64 0) (fun w => by kernel_rfl) ((i : Int), (j : Int)) false
      rw [hlab] at hlook
      simp only [keyV, numV, Bool.false_eq_true, if_false, Option.map_some, Option.getD_some] at hlook
      have d2 := hPU.blk.cell (k := 2) rfl
      have dl := hPU.blk.lt
      have e1 := h2.cell (k := 0) rfl
      have el := h2.lt
      have g0 := h1.box.cell (k := 0) rfl
      have gl := h1.box.lt
      have m0 := hbb.cell (k := 0) rfl
      have m1 := hbb.cell (k := 1) rfl
      have ml := hbb.lt
      obtain ⟨v0, n0, k0, rfl⟩ := IntsM.form' h1.own
      have HL1 := Lib.hid h1
      clear hL hlab hPU hbb h1
      gi_wp2
      refine Mix.region_split_at 8 2 (Mix.kinds [7] [] []) rfl rfl (by kernel_rfl) (by kernel_rfl) (by kernel_rfl) ?_
      simp only [List.take_succ_cons, List.take_zero]
      repeat ((with_reducible refine Mix.atCons ?_); first | refine Mix.skipU (by rfl) rfl (by rfl) ?_ | (refine Mix.val rfl rfl (by rfl) (fun K hK => ?_); go_big_quiet_op; refine hK _ ?_; clear hK K) | (refine Mix.skip (by rfl) ?_; go_frame))
      refine Mix.new rfl (by rfl) (fun b => .slice (some ⟨b, 0, none⟩) 1 1) (.cells #[.int .i64 ((L + 1 : Nat) : Int)] 3) (fun w => by simp [go_sem]) (fun E0 x1 hE0 hx1 => ?_)
      try go_frame
      refine Mix.done (fun x2 => ?_)
      have hA := (HL1.out.later x1).later x2
      obtain ⟨a6, n6, m6, w6, hr6, hl6, hg6, hG6, hB6, hK6⟩ := hA.app E0 1 ((L + 1 : Nat) : Int) (by
        rw [x2.cell (Array.getElem?_eq_some_iff.1 hx1).1]
        simp [World.cell?, hx1]) (by rw [List.length_map, List.length_map]; omega) 22
      have HR6 := Lib.hid hr6
      have HG6 := Lib.hid hG6
      have v1' := hl6.cell (k := 0) rfl
      have v1f := hl6.frozen 0
      have v1l := hl6.lt
      have hBel := ((x1.step x2).le.mono HL1.out.bel.size).trans hB6
      have hne2 := own_ne_lin hA.own ((h3.later x1).later x2) (by decide)
      have hne6 := own_ne_lin hA.own ((h2.later x1).later x2) (by decide)
      have H32 := Lib.hid ((((h3.later x1).later x2).kept hg6 (Ne.symm hne2)).other (k := 0) hn2 (.slice a6 n6 m6))
      have H22 := Lib.hid ((((h2.later x1).later x2).kept hg6 (Ne.symm hne6)).other (k := 0) hn6 (.slice a6 n6 m6))
      have HKP := Lib.hid (show KpM x.w.heap.size c2 U (w6.setCell ⟨c8, 0, none⟩ (.slice a6 n6 m6)) from ⟨hBel, (H32.out.cell (k := 0) rfl).trans (h3.cell (k := 0) rfl).symm⟩)
      have HKF := Lib.hid (KeepsFrom.trans (KeepsFrom.of (B := U0.w.heap.size) (x1.step x2)) (hK6.from _))
      have HSZ := Lib.hid (Nat.le_trans h5 hBel.size)
      clear hA hr6 hG6 hl6 hg6 hB6 hK6 hBel hne2 hne6 hx1 hE0
      refine wpAnyIn_all (rs := [8]) (by kernel_rfl) (by simp) (fun i hi => ?_)
      obtain rfl : i = 8 := by simpa using hi
      clear hi
      refine Mix.wpOpIn_some rfl (by rfl) (fun Kc hKc => ?_)
      refine wpIn_append_run _ _ 22 rfl _ _ rfl rfl HR6.out ?_
      refine hKc _ _ ?_
      clear hKc Kc
      try go_frame
      refine wpAnyIn_all (rs := [9]) (by kernel_rfl) (by simp) (fun i hi => ?_)
      obtain rfl : i = 9 := by simpa using hi
      clear hi
      refine Mix.wpOpIn_some rfl (by rfl) (fun Kc hKc => ?_)
      gi_wp2_with fail
      try clear hKc Kc
      refine wpAnyIn_done (by kernel_rfl) ?_ _
      gi_wp2
      exact ⟨HKF.out, HKP.out, ⟨_, by rw [HMS.out]; exact HG6.out⟩, H22.out, H32.out, HSZ.out⟩
    case done =>
      rintro D ys U hD hys ⟨⟨v, h1⟩, -, -, h5⟩ hK
      rw [hys] at h1
      have g0 := h1.box.cell (k := 0) rfl
      have gl := h1.box.lt
      obtain ⟨v0, n0, m0, rfl⟩ := IntsM.form' h1.own
      have hI := IntsM.ints h1.own (by rw [List.length_map]; have := HML.out; omega)
      have hn0 : n0 = ((matchL a b).map (lcP a b)).length := by obtain ⟨a, c, e⟩ := hI.form; cases e; rfl
      have HN0 := Lib.hid hn0
      have hb0 : n0 ≤ 10000 := by rw [hn0, List.length_map]; exact HML.out
      have hmk := run_make_ints n0 (by omega)
      obtain ⟨V, hcp, hB, hI2⟩ := copy_ints (U.alloc (.cells (madeCells #[.int .i64 0] n0) 3)) U.heap.size _ v0 n0 m0 3 HN0.out (World.alloc_heap_new _ _) (hI.later (Later.new _ _))
      have HI2 := Lib.hid hI2
      have HBV := Lib.hid (show Below W.heap.size W V from x.le.trans ((h1.bel.mono x.size).trans (((Later.new U _).le.trans hB).mono (Nat.le_trans x.size h1.bel.size))))
      have HD2 := Lib.hid (show V.heap[D]? = some (.deferred (some [])) from (hB.block D (Array.getElem?_eq_some_iff.1 hK).1).trans ((Below.heap_alloc _ _ _ (Array.getElem?_eq_some_iff.1 hK).1).trans hK))
      clear hn0 hI hB hI2 h1
      go_wp2
      refine leaves_marks (by simp) (fun Z => Below W.heap.size W Z ∧ Ints Z (.slice (some ⟨U.heap.size, 0, none⟩) n0 n0) ((matchL a b).map (lcP a b))) W.heap.size (fun Z D hD hK hZ => ⟨hZ.1.grown (grownBy_putObj' Z D (.deferred none)) hZ.1.size (fun r e => by cases e; exact hD), hZ.2.closed hK⟩) (fun Z hZ => ?_) [D] _ (by simp) (fun E hE => ?_) ⟨HBV.out, HI2.out⟩
      · refine ⟨_, results_tmp2 rfl _ _ _, ?_⟩
        exact ⟨.slice (some ⟨U.heap.size, 0, none⟩) n0 n0, ⟨Z, hZ.1⟩, by rw [HE.out.2]; rfl, rfl, by rw [HE.out.1]; exact hZ.2⟩
      · obtain rfl : E = D := by simpa using hE
        exact ⟨Nat.le_trans x.size (Nat.le_trans U0.size hD), HD2.out⟩
    case stop =>
      rintro D c pre W _ _ h _
      exact h.elim
  · have HE := Lib.hid (show labelsL a b = [] by rw [labelsL, if_neg h])
    obtain ⟨E, hE⟩ : ∃ E, txtsE a b = E := ⟨_, rfl⟩
    have HX := Lib.hid (compare_err a b W h)
    rw [hE] at h HX
    have hne : (E != 0) = true := by simpa using h
    have HEE := Lib.hid hE
    clear h hE
    go_enter Try.func39, Try.ntmps39
    go_wp2_with fail
    refine HX.out.mono ?_
    rintro e w' ⟨rfl, hw⟩
    rw [hw]
    clear hw w'
    go_wp2
    go_ret2
    exact ⟨.slice none 0 0, Later.new _ _, by rw [HEE.out]; rfl, rfl, by rw [HE.out]; exact Ints.nil _ _⟩

end Go.Proofs.Ytpkgfkeekcgkcaa
