import Derived.Deep.AppendSrc
import Derived.Deep.Upon
import Derived.Maps.AppendAt
import Derived.Laws.CopyRow
import Derived.Lib.SlFresh
import Derived.Test.YtieaibebnkdmhaaFirsts
namespace Go.Proofs.Ytieaibebnkdmhaa
open Go.RowKit

theorem info_int : ∃ i : TypeInfo, Try.prog.info? 3 = some i ∧ i.zero = some (.int .i64 0) ∧ i.size = 1 ∧ i.bytes = 8 := by
  have h : (Try.prog.info? 3).map (fun i => (i.zero, i.size, i.bytes)) = some (some (.int .i64 0), 1, 8) := by kernel_rfl
  obtain ⟨i, hi, hz⟩ := Option.map_eq_some_iff.1 h
  simp only [Prod.mk.injEq] at hz
  exact ⟨i, hi, hz.1, hz.2.1, hz.2.2⟩
theorem info_slice : ∃ i : TypeInfo, Try.prog.info? 25 = some i ∧ i.zero = some (.slice none 0 0) ∧ i.size = 1 ∧ i.bytes = 24 := by
  have h : (Try.prog.info? 25).map (fun i => (i.zero, i.size, i.bytes)) = some (some (.slice none 0 0), 1, 24) := by kernel_rfl
  obtain ⟨i, hi, hz⟩ := Option.map_eq_some_iff.1 h
  simp only [Prod.mk.injEq] at hz
  exact ⟨i, hi, hz.1, hz.2.1, hz.2.2⟩

/-- append(x[:n:n], y): a new block -/
theorem run_append_int (w : World) (xs : List Int) (n : Nat) (ao : Option Addr) (hx : Ints w (.slice ao n n) xs) (hl : n = xs.length) (b c : Nat) (y : Int) (hb : w.cell? ⟨b, 0, none⟩ = some (.int .i64 y)) (hbig : n ≤ 1000000) (ty : TypeId) :
    ∃ c' rest, (Builtin.append_ #[25, 25] ty #[.slice ao n n, .slice (some ⟨b, 0, none⟩) 1 c]).run Try.prog w = .ok (.slice (some ⟨w.heap.size, 0, none⟩) (n + 1) c') (w.drew.alloc (.cells (((xs ++ [y]).map (Value.int .i64)) ++ rest).toArray 3)) ∧ n + 1 ≤ c' := by
  obtain ⟨i, hi, hz, hsz, hby⟩ := info_int
  have hs : Src Try.prog i.size 25 (.slice (some ⟨b, 0, none⟩) 1 c) 1 [.int .i64 y] w := Src.ofSlice w (e' := 3) Try.underlying25 ⟨b, 0, none⟩ 1 c [.int .i64 y] (by rw [hsz]; rfl) (by
    intro j u hj
    match j with
    | 0 => simp at hj; subst hj; exact hb
    | j + 1 => simp at hj) (by intro u hu; simp at hu; subst hu; rfl)
  have hold : (Builtin.firstCells i.size n (.slice ao n n)).run Try.prog w.drew = .ok (xs.map (Value.int .i64)).toArray w.drew := by
    obtain ⟨_, ⟨rfl, a, cap, e⟩ | ⟨b', off, cap, e, hcp, hlt, hc⟩⟩ := hx
    · cases e
      cases ao with
      | none => exact run_firstCells_none w.drew _ _ _ _
      | some a => exact run_firstCells_some w.drew _ _ _ _ _ [] (by simp) (by simp)
    · cases e
      refine run_firstCells_some w.drew _ _ _ _ _ _ (by rw [hsz]; simp) fun j v hj => ?_
      rw [List.getElem?_map] at hj
      obtain ⟨x, hx, rfl⟩ := Option.map_eq_some_iff.1 hj
      have hjl := (List.getElem?_eq_some_iff.1 hx).1
      have := hc j hjl
      rw [nth_eq hjl, (List.getElem?_eq_some_iff.1 hx).2] at this
      rw [Addr.add_lit]
      exact this
  have hn := nextslicecap_le (need := n + 1) (old := n) (by omega)
  have hr := run_append_grow_src w 25 25 ty 3 i (.int .i64 0) Try.underlying25 hi hz ao n n (xs.map (Value.int .i64)) hold _ 1 [.int .i64 y] hs (by omega) (by omega) (by rw [hby]; omega)
  obtain ⟨Z, hZ⟩ : ∃ Z, Builtin.zeroCells (Value.int .i64 0).cells (grownCap w (n + 1) n 3 - (n + 1)) = Z := ⟨_, rfl⟩
  rw [hZ] at hr
  have e : ((xs.map (Value.int .i64) ++ [Value.int .i64 y]).toArray ++ Z : Array Value) = ((xs ++ [y]).map (Value.int .i64) ++ Z.toList).toArray := by
    apply Array.ext'
    simp
  rw [e] at hr
  exact ⟨grownCap w (n + 1) n 3, Z.toList, hr, grownCap_ge w (n + 1) n 3⟩

/-- Several lists of one's own: each in its block, and a slice of one's own that holds them. -/
def Rows2N (lo : Nat) (w : World) (v : Value) (xss : List (List Int)) : Prop :=
  ∃ bs : List (Nat × Nat), bs.length = xss.length ∧ (∀ k, k < xss.length → ∃ rest, Row w (bs.getD k (0, 0)).1 (row xss k) rest 3 ∧ (row xss k).length ≤ (bs.getD k (0, 0)).2 ∧ (row xss k).length ≤ 1000000) ∧
    w.ownsRow lo 25 1 v xss.length ((List.range xss.length).map fun k => Value.slice (some ⟨(bs.getD k (0, 0)).1, 0, none⟩) (row xss k).length (bs.getD k (0, 0)).2)

theorem Rows2N.nil (lo : Nat) (w : World) : Rows2N lo w (.slice none 0 0) [] := ⟨[], rfl, fun _ hk => absurd hk (Nat.not_lt_zero _), World.ownsRow_nil _ _ _ _⟩
theorem Rows2N.form {lo : Nat} {w : World} {v : Value} {xss : List (List Int)} (h : Rows2N lo w v xss) : ∃ a c, v = .slice a xss.length c := by
  obtain ⟨bs, _, _, _, ⟨rfl, h0⟩ | ⟨g, cap, cur, rfl, _⟩⟩ := h
  · rw [h0]; exact ⟨_, _, rfl⟩
  · exact ⟨_, _, rfl⟩
theorem Rows2N.rows {lo : Nat} {w : World} {v : Value} {xss : List (List Int)} (h : Rows2N lo w v xss) (hlen : xss.length ≤ 9007199254740992) : Rows2 w v xss := by
  obtain ⟨bs, hbl, hr, h1, ⟨rfl, h0⟩ | ⟨g, cap, cur, rfl, _, hg, hnc, hcm, hcs, htk⟩⟩ := h
  · have : xss = [] := List.eq_nil_of_length_eq_zero h0
    subst this
    exact ⟨by simp, .inl ⟨rfl, none, 0, rfl⟩⟩
  · refine ⟨hlen, .inr ⟨g, 0, cap, fun k => Value.slice (some ⟨(bs.getD k (0, 0)).1, 0, none⟩) (row xss k).length (bs.getD k (0, 0)).2, rfl, hnc, (Array.getElem?_eq_some_iff.1 hg).1, fun k hk => ⟨?_, ?_⟩⟩⟩
    · have e : (cur.toList.take (xss.length * 1))[k]? = some (Value.slice (some ⟨(bs.getD k (0, 0)).1, 0, none⟩) (row xss k).length (bs.getD k (0, 0)).2) := by
        rw [htk]; simp [hk]
      rw [List.getElem?_take, if_pos (by omega)] at e
      simp only [World.cell?, hg, Nat.zero_add]
      simpa using e
    · obtain ⟨rest, hR, hc, hl⟩ := hr k hk
      exact hR.ints rfl (by omega) hc
theorem Rows2N.later {lo : Nat} {w : World} {v : Value} {xss : List (List Int)} (h : Rows2N lo w v xss) (x : Later w) : Rows2N lo x.w v xss := by
  obtain ⟨bs, hbl, hr, hown⟩ := h
  refine ⟨bs, hbl, fun k hk => ?_, ?_⟩
  · obtain ⟨rest, hR, hc⟩ := hr k hk; exact ⟨rest, hR.later x, hc⟩
  · exact hown.kept (row := none) ⟨x.le.os, x.le.tape, x.le.output, x.size, fun k hk _ => x.le.block k hk⟩ (by cases h : v.ownBlock <;> simp)
theorem Rows2N.mono {lo lo' : Nat} {w : World} {v : Value} {xss : List (List Int)} (h : Rows2N lo w v xss) (hl : lo' ≤ lo) : Rows2N lo' w v xss := by
  obtain ⟨bs, hbl, hr, h1, h2⟩ := h
  refine ⟨bs, hbl, hr, h1, h2.imp id ?_⟩
  rintro ⟨g, cap, cur, hv, hg, r⟩
  exact ⟨g, cap, cur, hv, by omega, r⟩
/-- what is another block than its own leaves it as it is -/
theorem Rows2N.kept {lo : Nat} {w w' : World} {v : Value} {xss : List (List Int)} (h : Rows2N lo w v xss) {B : Nat} {T : TypeId} {cs : Array Value} (hB : w.heap[B]? = some (.cells cs T (0, 0))) (h1 : T ≠ 3) (h2 : T ≠ 25) (hg : w.grownBy w' (some B)) : Rows2N lo w' v xss := by
  obtain ⟨bs, hbl, hr, hown⟩ := h
  refine ⟨bs, hbl, fun k hk => ?_, ?_⟩
  · obtain ⟨rest, hR, hc⟩ := hr k hk
    refine ⟨rest, hR.block (hg.block _ hR.lt fun e => ?_), hc⟩
    cases e
    have := hB.symm.trans hR
    simp at this
    exact h1 this.2
  · refine hown.kept hg ?_
    rcases hown.2 with ⟨rfl, _⟩ | ⟨g, cap, cur, rfl, _, hgb, _⟩
    · exact .inl rfl
    · refine .inr fun e => ?_
      simp [Value.ownBlock] at e
      subst e
      have := hB.symm.trans hgb
      simp at this
      exact h2 this.2
theorem Rows2N.putObj {lo : Nat} {w : World} {v : Value} {xss : List (List Int)} (h : Rows2N lo w v xss) {D : Nat} {o : Obj} (o' : Obj) (hD : w.heap[D]? = some o) (ho : o.isCells = false) : Rows2N lo (w.putObj D o') v xss := by
  obtain ⟨bs, hbl, hr, hown⟩ := h
  refine ⟨bs, hbl, fun k hk => ?_, ownsRow_putObj hown o' hD ho⟩
  obtain ⟨rest, hR, hc⟩ := hr k hk
  refine ⟨rest, hR.block ((grownBy_putObj' w D o').block _ hR.lt fun e => ?_), hc⟩
  have e : (bs.getD k (0, 0)).1 = D := by simpa using e
  rw [e] at hR
  rw [show w.heap[D]? = _ from hR] at hD
  cases hD; cases ho

/-- append of one's own lists to one's own lists -/
theorem run_append_rows (w : World) (lo lo' : Nat) (v l : Value) (xss yss : List (List Int)) (hv : Rows2N lo w v xss) (hl : Rows2N lo' w l yss) (hlo : lo ≤ w.heap.size) (hbig : xss.length + yss.length ≤ 5000000000000) (ty : TypeId) :
    ∃ v' w', (Builtin.append_ #[22, 22] ty #[v, l]).run Try.prog w = .ok v' w' ∧ Rows2N lo w' v' (xss ++ yss) ∧ Below lo w w' := by
  obtain ⟨i, hi, hz, hsz, hby⟩ := info_slice
  obtain ⟨bs, hbl, hr, hown⟩ := hv
  obtain ⟨bs', hbl', hr', hown'⟩ := hl
  have hcomb : ∀ (w' : World) (v' : Value), w.grownBy w' v.ownBlock → w'.ownsRow lo 25 1 v' (xss.length + yss.length) (((List.range xss.length).map fun k => Value.slice (some ⟨(bs.getD k (0, 0)).1, 0, none⟩) (row xss k).length (bs.getD k (0, 0)).2) ++ ((List.range yss.length).map fun k => Value.slice (some ⟨(bs'.getD k (0, 0)).1, 0, none⟩) (row yss k).length (bs'.getD k (0, 0)).2)) → Rows2N lo w' v' (xss ++ yss) := by
    intro w' v' hg ho
    have hkeep : ∀ b xs rest, Row w b xs rest 3 → Row w' b xs rest 3 := by
      intro b xs rest hR
      refine hR.block (hg.block b hR.lt fun e => ?_)
      rcases hown.2 with ⟨rfl, _⟩ | ⟨g, cap, cur, rfl, _, hgb, _⟩
      · simp [Value.ownBlock] at e
      · simp [Value.ownBlock] at e
        subst e
        have := hgb.symm.trans hR
        simp at this
    have g1 : ∀ k, k < xss.length → (bs ++ bs').getD k (0, 0) = bs.getD k (0, 0) ∧ row (xss ++ yss) k = row xss k := fun k hk => by
      simp only [row, List.getD_eq_getElem?_getD, List.getElem?_append_left (show k < bs.length by omega), List.getElem?_append_left hk, and_self]
    have g2 : ∀ k, (bs ++ bs').getD (xss.length + k) (0, 0) = bs'.getD k (0, 0) ∧ row (xss ++ yss) (xss.length + k) = row yss k := fun k => by
      simp only [row, List.getD_eq_getElem?_getD, List.getElem?_append_right (show bs.length ≤ xss.length + k by omega), List.getElem?_append_right (show xss.length ≤ xss.length + k by omega), hbl, Nat.add_sub_cancel_left, and_self]
    refine ⟨bs ++ bs', by simp [hbl, hbl'], fun k hk => ?_, ?_⟩
    · by_cases hlt : k < xss.length
      · obtain ⟨e1, e2⟩ := g1 k hlt
        rw [e1, e2]
        obtain ⟨rest, hR, hc⟩ := hr k hlt
        exact ⟨rest, hkeep _ _ _ hR, hc⟩
      · obtain ⟨j, rfl⟩ : ∃ j, k = xss.length + j := ⟨k - xss.length, by omega⟩
        obtain ⟨e1, e2⟩ := g2 j
        rw [e1, e2]
        obtain ⟨rest, hR, hc⟩ := hr' j (by simp at hk; omega)
        exact ⟨rest, hkeep _ _ _ hR, hc⟩
    · rw [List.length_append, List.range_add, List.map_append, List.map_map]
      have m1 : (List.range xss.length).map (fun k => Value.slice (some ⟨((bs ++ bs').getD k (0, 0)).1, 0, none⟩) (row (xss ++ yss) k).length ((bs ++ bs').getD k (0, 0)).2) = (List.range xss.length).map fun k => Value.slice (some ⟨(bs.getD k (0, 0)).1, 0, none⟩) (row xss k).length (bs.getD k (0, 0)).2 :=
        List.map_congr_left fun k hk => by obtain ⟨e1, e2⟩ := g1 k (List.mem_range.1 hk); rw [e1, e2]
      have m2 : (List.range yss.length).map ((fun k => Value.slice (some ⟨((bs ++ bs').getD k (0, 0)).1, 0, none⟩) (row (xss ++ yss) k).length ((bs ++ bs').getD k (0, 0)).2) ∘ fun x => xss.length + x) = (List.range yss.length).map fun k => Value.slice (some ⟨(bs'.getD k (0, 0)).1, 0, none⟩) (row yss k).length (bs'.getD k (0, 0)).2 :=
        List.map_congr_left fun k _ => by obtain ⟨e1, e2⟩ := g2 k; simp only [Function.comp]; rw [e1, e2]
      rw [m1, m2]
      exact ho
  have hblo : ∀ w', w.grownBy w' v.ownBlock → Below lo w w' := fun w' hg => (Below.refl lo w).grown hg hlo (fun k hk => (hown.lt k hk).1)
  rcases hown'.2 with ⟨rfl, h0⟩ | ⟨g, cap, cur, rfl, hb, hgb, hnc, hcm, hcs, htk⟩
  · have : yss = [] := List.eq_nil_of_length_eq_zero h0
    subst this
    obtain ⟨a, c, rfl⟩ : ∃ a c, v = .slice a xss.length c := Rows2N.form ⟨bs, hbl, hr, hown⟩
    have hle : xss.length ≤ c := by
      rcases hown.2 with ⟨e, h0⟩ | ⟨g, cap, cur, e, _, _, hn, _⟩
      · rw [h0]; exact Nat.zero_le _
      · cases e; exact hn
    have hs : Src Try.prog i.size 22 (.slice none 0 0) 0 [] w := Src.ofNil w (e' := 25) Try.underlying22 0
    refine ⟨_, w, run_append_nothing w _ _ ty _ i Try.underlying22 hi a xss.length c hle _ hs, ?_, Below.refl _ _⟩
    rw [List.append_nil]
    exact ⟨bs, hbl, hr, hown⟩
  · obtain ⟨v', w', hrun, hown2, hg2, _⟩ := run_append_own w lo 22 ty 25 i (.slice none 0 0) 1 24 Try.underlying22 hi hz hsz hby rfl (by decide) v xss.length _ hown ⟨g, 0, none⟩ yss.length cap
      ((List.range yss.length).map fun k => Value.slice (some ⟨(bs'.getD k (0, 0)).1, 0, none⟩) (row yss k).length (bs'.getD k (0, 0)).2) (by simp) (by
        intro j u hj
        exact hown'.cells rfl j u hj) (by
        intro u hu
        obtain ⟨k, _, rfl⟩ := List.mem_map.1 hu
        rfl) (by simp only [maxLen]; omega) (by omega) hlo
    exact ⟨v', w', hrun, hcomb w' v' hg2 hown2, hblo w' hg2⟩
end Go.Proofs.Ytieaibebnkdmhaa
