/-  A book of the call's own, in a block of two slices; the slices of lists that are stored there. Plain law over the program's table of types. -/
import Derived.Test.YtieaibebnkdmhaaOwnI
namespace Go.Proofs.Ytieaibebnkdmhaa
open Go.RowKit

/-- a struct of two slices -/
def BoxB (W : World) (X : Nat) (u v : Value) : Prop := W.heap[X]? = some (.cells #[u, v] 24 (0, 0))
section
variable {W : World} {X : Nat} {u v : Value}
theorem BoxB.new (W : World) (u v : Value) : BoxB (W.alloc (.cells #[u, v] 24)) W.heap.size u v := World.alloc_heap_new W _
theorem BoxB.lt (h : BoxB W X u v) : X < W.heap.size := (Array.getElem?_eq_some_iff.1 h).1
theorem BoxB.cell0 (h : BoxB W X u v) : W.cell? ⟨X, 0, none⟩ = some u := by simp [World.cell?, show W.heap[X]? = _ from h]
theorem BoxB.cell1 (h : BoxB W X u v) : W.cell? ⟨X, 1, none⟩ = some v := by simp [World.cell?, show W.heap[X]? = _ from h]
theorem BoxB.frozen0 (h : BoxB W X u v) : W.frozen? ⟨X, 0, none⟩ = false := by simp [World.frozen?, show W.heap[X]? = _ from h]
theorem BoxB.frozen1 (h : BoxB W X u v) : W.frozen? ⟨X, 1, none⟩ = false := by simp [World.frozen?, show W.heap[X]? = _ from h]
theorem BoxB.later (h : BoxB W X u v) (x : Later W) : BoxB x.w X u v := (x.le.block X h.lt).trans h
theorem BoxB.kept {W' : World} {r : Option Nat} (h : BoxB W X u v) (hg : W.grownBy W' r) (hne : some X ≠ r) : BoxB W' X u v := (hg.block X h.lt hne).trans h
theorem BoxB.set0 (u' : Value) (h : BoxB W X u v) : BoxB (W.setCell ⟨X, 0, none⟩ u') X u' v := by
  obtain ⟨hlt, hk⟩ := Array.getElem?_eq_some_iff.1 h
  show (W.heap.modify X _)[X]? = _
  rw [Array.getElem?_eq_getElem (by rw [Array.size_modify]; exact hlt), Array.getElem_modify_self, hk]
  rfl
theorem BoxB.set1 (v' : Value) (h : BoxB W X u v) : BoxB (W.setCell ⟨X, 1, none⟩ v') X u v' := by
  obtain ⟨hlt, hk⟩ := Array.getElem?_eq_some_iff.1 h
  show (W.heap.modify X _)[X]? = _
  rw [Array.getElem?_eq_getElem (by rw [Array.size_modify]; exact hlt), Array.getElem_modify_self, hk]
  rfl
theorem BoxB.not_own (h : BoxB W X u v) {lo n : Nat} {a : Value} {vs : List Value} (hr : W.ownsRow lo 25 1 a n vs) : some X ≠ a.ownBlock := by
  rcases hr.2 with ⟨rfl, _⟩ | ⟨g, cap, cur, rfl, _, hgb, _⟩
  · simp [Value.ownBlock]
  · intro e'
    obtain rfl : X = g := by simpa [Value.ownBlock] using e'
    have := (show W.heap[X]? = _ from h).symm.trans hgb
    simp at this
end
theorem Sep.mono {lo lo' : Nat} {w : World} {u : Value} (h : Sep lo w u) (hl : lo ≤ lo') : Sep lo' w u := fun b off n c e hn => (h b off n c e hn).imp (fun h => by omega) id
/-- a block that holds no numbers -/
def NoInts (w : World) (c : Nat) : Prop := ∀ cs z, w.heap[c]? ≠ some (.cells cs 3 z)
theorem BoxB.noInts {W : World} {X : Nat} {u v : Value} (h : BoxB W X u v) : NoInts W X := fun cs z e => by
  have := (show W.heap[X]? = _ from h).symm.trans e
  simp at this
theorem own_noInts {w : World} {lo n c : Nat} {v : Value} {vs : List Value} (h : w.ownsRow lo 25 1 v n vs) (hc : v.ownBlock = some c) : NoInts w c := fun cs z e => by
  rcases h.2 with ⟨rfl, _⟩ | ⟨g, cap, cur, rfl, _, hgb, _⟩
  · cases hc
  · obtain rfl : g = c := by simpa [Value.ownBlock] using hc
    have := hgb.symm.trans e
    simp at this
theorem Sep.ne' {lx : Nat} {w : World} {u : Value} (h : Sep lx w u) {c : Nat} (h1 : lx ≤ c) (h2 : NoInts w c) (b off m k) (e : u = .slice (some ⟨b, off, none⟩) m k) (hm : m ≠ 0) : some b ≠ some c := fun hb => by
  obtain rfl : b = c := by simpa using hb
  rcases h b off m k e hm with h | ⟨cs, z, h⟩
  · omega
  · exact h2 cs z h

/-- Several lists, in a slice of one's own from lo on; the lists lie below lx, or in blocks of numbers. -/
def Rows3 (lx lo : Nat) (w : World) (v : Value) (xss : List (List Int)) : Prop :=
  ∃ vs : List Value, vs.length = xss.length ∧ w.ownsRow lo 25 1 v xss.length vs ∧ ∀ k, k < xss.length → Ints w (vs.getD k undef) (row xss k) ∧ Sep lx w (vs.getD k undef)
section
variable {lx lo : Nat} {w : World} {v : Value} {xss : List (List Int)}
theorem Rows3.nil (lx lo : Nat) (w : World) : Rows3 lx lo w (.slice none 0 0) [] := ⟨[], rfl, World.ownsRow_nil _ _ _ _, fun _ hk => absurd hk (Nat.not_lt_zero _)⟩
theorem Rows3.old (h : Rows3 lx lo w v xss) (hl : lx ≤ lo) : Rows2M lo w v xss := by
  obtain ⟨vs, hvl, hown, hr⟩ := h
  exact ⟨vs, hvl, hown, fun k hk => ⟨(hr k hk).1, (hr k hk).2.mono hl⟩⟩
theorem Rows3.form' (h : Rows3 lx lo w v xss) : ∃ a n c, v = .slice a n c := by
  obtain ⟨_, _, ⟨_, ⟨rfl, h0⟩ | ⟨g, cap, cur, rfl, _⟩⟩, _⟩ := h
  · exact ⟨_, _, _, rfl⟩
  · exact ⟨_, _, _, rfl⟩
theorem Rows3.rows (h : Rows3 lx lo w v xss) (hl : lx ≤ lo) (hb : xss.length ≤ 9007199254740992) : Rows2 w v xss := (h.old hl).rows hb
theorem Rows3.lt (h : Rows3 lx lo w v xss) {k : Nat} (hk : v.ownBlock = some k) : lo ≤ k ∧ k < w.heap.size := by
  obtain ⟨vs, hvl, hown, _⟩ := h
  exact hown.lt k hk
theorem Rows3.noInts (h : Rows3 lx lo w v xss) {c : Nat} (hc : v.ownBlock = some c) : NoInts w c := by
  obtain ⟨vs, hvl, hown, _⟩ := h
  exact own_noInts hown hc
theorem Rows3.not_box (h : Rows3 lx lo w v xss) {X : Nat} {a b : Value} (hb : BoxB w X a b) : some X ≠ v.ownBlock := by
  obtain ⟨vs, hvl, hown, _⟩ := h
  exact hb.not_own hown
theorem Rows3.later (h : Rows3 lx lo w v xss) (x : Later w) : Rows3 lx lo x.w v xss := by
  obtain ⟨vs, hvl, hown, hr⟩ := h
  exact ⟨vs, hvl, hown.kept (row := none) ⟨x.le.os, x.le.tape, x.le.output, x.size, fun k hk _ => x.le.block k hk⟩ (by cases hv : v.ownBlock <;> simp), fun k hk => ⟨(hr k hk).1.later x, (hr k hk).2.later x⟩⟩
theorem Rows3.kept (h : Rows3 lx lo w v xss) {w' : World} {r : Option Nat} (hg : w.grownBy w' r) (hne : v.ownBlock = none ∨ v.ownBlock ≠ r) (hr : ∀ c, r = some c → lx ≤ c ∧ NoInts w c) : Rows3 lx lo w' v xss := by
  obtain ⟨vs, hvl, hown, hrr⟩ := h
  have hn : ∀ k, k < xss.length → ∀ b off n c, vs.getD k undef = .slice (some ⟨b, off, none⟩) n c → n ≠ 0 → some b ≠ r := fun k hk b off n c e hn hb => by
    obtain ⟨h1, h2⟩ := hr b hb.symm
    exact (hrr k hk).2.ne' h1 h2 b off n c e hn rfl
  exact ⟨vs, hvl, hown.kept hg hne, fun k hk => ⟨(hrr k hk).1.kept hg (hn k hk), (hrr k hk).2.kept hg (hn k hk)⟩⟩
theorem Rows3.set0 (h : Rows3 lx lo w v xss) {X : Nat} {a b : Value} (hb : BoxB w X a b) (hx : lx ≤ X) (i : Nat) (u : Value) : Rows3 lx lo (w.setCell ⟨X, i, none⟩ u) v xss :=
  h.kept (r := some X) ⟨rfl, rfl, rfl, by simp [World.setCell], fun j _ hj => Below.heap_setCell _ _ _ j (fun e => hj (by rw [e]))⟩ (.inr (h.not_box hb).symm) fun c e => by cases e; exact ⟨hx, hb.noInts⟩
end
/-- append(v, x) of a list to lists: the world in which the one-element slice has been made -/
theorem app_row3 {w : World} {lx lo : Nat} (hl : lx ≤ lo) (hlo : lo ≤ w.heap.size) {v x : Value} {xss : List (List Int)} {ys : List Int} (hv : Rows3 lx lo w v xss) (hx : Ints w x ys) (hxs : Sep lx w x) (hbig : xss.length + 1 ≤ 1000000000000) (ty : TypeId) :
    ∃ a n c w', (Builtin.append_ #[22, 22] ty #[v, .slice (some ⟨w.heap.size, 0, none⟩) 1 1]).run Try.prog (w.alloc (.cells #[x] 25)) = .ok (.slice a n c) w' ∧ Rows3 lx lo w' (.slice a n c) (xss ++ [ys]) ∧ w.grownBy w' v.ownBlock := by
  obtain ⟨i, hi, hz, hsz, hby⟩ := info_slice
  have hv0 := hv
  obtain ⟨vs, hvl, hown, hr⟩ := hv.later (Later.new w (.cells #[x] 25))
  have hx := hx.later (Later.new w (.cells #[x] 25))
  have hxs := hxs.later (Later.new w (.cells #[x] 25))
  rw [Later.new_w] at hown hr hx hxs
  have hx1 : x.oneCell' = true := by obtain ⟨a, c, rfl⟩ := hx.form; rfl
  obtain ⟨v', w', hrun, hown2, hg2, _⟩ := run_append_own (w.alloc (.cells #[x] 25)) lo 22 ty 25 i (.slice none 0 0) 1 24 Try.underlying22 hi hz hsz hby rfl (by decide) v xss.length _ hown ⟨w.heap.size, 0, none⟩ 1 1
    [x] rfl (by
      intro j u hj
      match j with
      | 0 => simp at hj; subst hj; simp [go_sem]
      | j + 1 => simp at hj) (by
      intro u hu
      simp at hu; subst hu; exact hx1) (by simp only [maxLen]; omega) (by omega) (by simp; omega)
  have hne : ∀ k, k < xss.length → ∀ b off n c, vs.getD k undef = .slice (some ⟨b, off, none⟩) n c → n ≠ 0 → some b ≠ v.ownBlock := fun k hk b off n c e hn => ((hr k hk).2.mono hl).ne hown b off n c e hn
  have hnx : ∀ b off n c, x = .slice (some ⟨b, off, none⟩) n c → n ≠ 0 → some b ≠ v.ownBlock := fun b off n c e hn => (hxs.mono hl).ne hown b off n c e hn
  have hR : Rows3 lx lo w' v' (xss ++ [ys]) := by
    refine ⟨vs ++ [x], by simp [hvl], by rw [List.length_append]; exact hown2, fun k hk => ?_⟩
    by_cases hlt : k < xss.length
    · have e1 : (vs ++ [x]).getD k undef = vs.getD k undef := by simp [List.getD_eq_getElem?_getD, List.getElem?_append_left (show k < vs.length by omega)]
      have e2 : row (xss ++ [ys]) k = row xss k := by simp [row, List.getD_eq_getElem?_getD, List.getElem?_append_left hlt]
      rw [e1, e2]
      exact ⟨(hr k hlt).1.kept hg2 (hne k hlt), (hr k hlt).2.kept hg2 (hne k hlt)⟩
    · obtain rfl : k = xss.length := by simp at hk; omega
      have e1 : (vs ++ [x]).getD xss.length undef = x := by simp [List.getD_eq_getElem?_getD, ← hvl]
      have e2 : row (xss ++ [ys]) xss.length = ys := by simp [row]
      rw [e1, e2]
      exact ⟨hx.kept hg2 hnx, hxs.kept hg2 hnx⟩
  obtain ⟨a, n, c, rfl⟩ := hR.form'
  exact ⟨a, n, c, w', hrun, hR, ⟨hg2.os, hg2.tape, hg2.output, Nat.le_trans (by simp) hg2.size, fun k hk hne => (hg2.block k (by simp; omega) hne).trans (Below.heap_alloc _ _ k hk)⟩⟩
/-- append([][]int{}, x...) of lists that were there -/
theorem app_rows3 {w0 : World} (y : Later w0) {lx lo : Nat} (hl0 : w0.heap.size ≤ lx) (hl : lx ≤ lo) {v x : Value} {xss : List (List Int)} (hv : y.w.ownsRow lo 25 1 v 0 []) (hx : Rows2 w0 x xss) (hne : 0 < xss.length) (hlo : lo ≤ y.w.heap.size) (hbig : xss.length ≤ 1000000000000) (ty : TypeId) :
    ∃ a n c w', (Builtin.append_ #[22, 22] ty #[v, x]).run Try.prog y.w = .ok (.slice a n c) w' ∧ Rows3 lx lo w' (.slice a n c) xss ∧ y.w.grownBy w' v.ownBlock := by
  obtain ⟨i, hi, hz, hsz, hby⟩ := info_slice
  obtain ⟨b, off, cap, f, rfl, hcp, hlt, hc⟩ := hx.at hne
  have hf1 : ∀ k, k < xss.length → (f k).oneCell' = true := fun k hk => by obtain ⟨a, c, e⟩ := (hc k hk).2.form; rw [e]; rfl
  obtain ⟨v', w', hrun, hown2, hg2, _⟩ := run_append_own y.w lo 22 ty 25 i (.slice none 0 0) 1 24 Try.underlying22 hi hz hsz hby rfl (by decide) v 0 _ hv ⟨b, off, none⟩ xss.length cap
    ((List.range xss.length).map f) (by simp) (by
      intro j u hj
      rw [List.getElem?_map] at hj
      obtain ⟨k, hk, rfl⟩ := Option.map_eq_some_iff.1 hj
      obtain ⟨hjl, e⟩ := List.getElem?_eq_some_iff.1 hk
      rw [List.getElem_range] at e
      subst e
      rw [List.length_range] at hjl
      rw [Addr.add_lit]
      exact (y.cell hlt).trans (hc j hjl).1) (by
      intro u hu
      obtain ⟨k, hk, rfl⟩ := List.mem_map.1 hu
      exact hf1 k (List.mem_range.1 hk)) (by simp only [maxLen]; omega) (by omega) hlo
  have hR : Rows3 lx lo w' v' xss := by
    refine ⟨(List.range xss.length).map f, by simp, by simpa using hown2, fun k hk => ?_⟩
    have e1 : ((List.range xss.length).map f).getD k undef = f k := by simp [List.getD_eq_getElem?_getD, hk]
    rw [e1]
    have hs : Sep w0.heap.size y.w (f k) := Sep.of_ints (hc k hk).2
    have hnk : ∀ b off n c, f k = .slice (some ⟨b, off, none⟩) n c → n ≠ 0 → some b ≠ v.ownBlock := fun b' off' n' c' e hn hb => by
      obtain ⟨_, ⟨_, a, cp, e2⟩ | ⟨b2, off2, cp, e2, _, hb2, _⟩⟩ := (hc k hk).2
      · rw [e2] at e; cases e; exact hn rfl
      · rw [e2] at e; cases e
        have := (hv.lt b' hb.symm).1
        omega
    exact ⟨((hc k hk).2.later y).kept hg2 hnk, (hs.kept hg2 hnk).mono hl0⟩
  obtain ⟨a, n, c, rfl⟩ := hR.form'
  exact ⟨a, n, c, w', hrun, hR, hg2⟩
/-- a store of a list into lists of one's own -/
theorem Rows3.stored {w : World} {lx lo n c : Nat} {a : Option Addr} {xss : List (List Int)} (h : Rows3 lx lo w (.slice a n c) xss) {k : Nat} (hk : k < xss.length) {x : Value} {ys : List Int} (hx : Ints w x ys) (hs : Sep lx w x) (hl : lx ≤ lo) :
    ∃ g, a = some ⟨g, 0, none⟩ ∧ n = xss.length ∧ lo ≤ g ∧ g < w.heap.size ∧ n ≤ c ∧ w.frozen? ⟨g, k, none⟩ = false ∧ (∃ u, w.cell? ⟨g, k, none⟩ = some u) ∧ Rows3 lx lo (w.setCell ⟨g, k, none⟩ x) (.slice a n c) (xss.set k ys) ∧ w.grownBy (w.setCell ⟨g, k, none⟩ x) (some g) := by
  obtain ⟨vs, hvl, hown, hr⟩ := h
  have h2 := hown.2
  rcases h2 with ⟨e, h0⟩ | ⟨g, cap, cur, e, hb, hg, hnc, hcm, hcs, htk⟩
  · omega
  · cases e
    obtain ⟨hst, hgr⟩ := hown.stored k x
    have hni : NoInts w g := own_noInts hown rfl
    have hnx : ∀ j, j < xss.length → ∀ b off n c, vs.getD j undef = .slice (some ⟨b, off, none⟩) n c → n ≠ 0 → some b ≠ some g := fun j hj b off n c e hn => (hr j hj).2.ne' (by omega) hni b off n c e hn
    have hnx2 : ∀ b off n c, x = .slice (some ⟨b, off, none⟩) n c → n ≠ 0 → some b ≠ some g := fun b off n c e hn => hs.ne' (by omega) hni b off n c e hn
    refine ⟨g, rfl, rfl, hb, (Array.getElem?_eq_some_iff.1 hg).1, hnc, hown.frozenAt k, ⟨vs.getD k undef, ?_⟩, ⟨vs.set k x, by simp [hvl], by rw [List.length_set]; exact hst, fun j hj => ?_⟩, hgr⟩
    · rw [hown.cellAt k (by omega)]
      simp [hvl, hk]
    · rw [List.length_set] at hj
      by_cases e : j = k
      · subst e
        have e1 : (vs.set j x).getD j undef = x := by simp [List.getD_eq_getElem?_getD, hvl, hk]
        have e2 : row (xss.set j ys) j = ys := by simp [row, hk]
        rw [e1, e2]
        exact ⟨hx.kept hgr hnx2, hs.kept hgr hnx2⟩
      · have e1 : (vs.set k x).getD j undef = vs.getD j undef := by simp [List.getD_eq_getElem?_getD, List.getElem?_set_ne (Ne.symm e)]
        have e2 : row (xss.set k ys) j = row xss j := by simp [row, List.getD_eq_getElem?_getD, List.getElem?_set_ne (Ne.symm e)]
        rw [e1, e2]
        exact ⟨(hr j hj).1.kept hgr (hnx j hj), (hr j hj).2.kept hgr (hnx j hj)⟩
theorem Ints.takeS {w : World} {a : Option Addr} {n c : Nat} {xs : List Int} (h : Ints w (.slice a n c) xs) {j : Nat} (hj : j ≤ xs.length) : Ints w (.slice a j c) (xs.take j) := by
  have hlen : (xs.take j).length = j := by rw [List.length_take]; omega
  by_cases h0 : j = 0
  · subst h0; exact ⟨by simp, .inl ⟨by simp, a, c, rfl⟩⟩
  obtain ⟨h1, ⟨rfl, _⟩ | ⟨b, off, cap, e, hcp, hb, hc⟩⟩ := h
  · simp at hj; omega
  · cases e
    refine ⟨by omega, .inr ⟨b, off, c, by rw [hlen], by omega, hb, fun k hk => ?_⟩⟩
    rw [hlen] at hk
    rw [hc k (by omega)]
    simp [nth, hk]
theorem Ints.dropS {w : World} {b off n c : Nat} {xs : List Int} (h : Ints w (.slice (some ⟨b, off, none⟩) n c) xs) {j : Nat} (hj : j ≤ xs.length) (d : Nat) : Ints w (.slice (some ⟨b, off + j, none⟩) (xs.length - j) d) (xs.drop j) ∨ d < xs.length - j := by
  by_cases hd : d < xs.length - j
  · exact .inr hd
  · left
    have hlen : (xs.drop j).length = xs.length - j := by rw [List.length_drop]
    obtain ⟨h1, ⟨rfl, _⟩ | ⟨b', off', cap, e, hcp, hb, hc⟩⟩ := h
    · exact ⟨by simp, .inl ⟨by simp, some ⟨b, off + j, none⟩, d, by simp⟩⟩
    · cases e
      refine ⟨by omega, .inr ⟨b, off + j, d, by rw [hlen], by omega, hb, fun k hk => ?_⟩⟩
      rw [hlen] at hk
      rw [Nat.add_assoc, hc (j + k) (by omega)]
      simp [nth]

theorem ok_inj {α : Type} {a b : α} {w w' : World} (h : (Result.ok a w : Result α) = .ok b w') : a = b ∧ w = w' := by cases h; exact ⟨rfl, rfl⟩
/-- append([]int{}, x...) changes nothing that was there -/
theorem app_empty {u : World} {lo E : Nat} (hE : IntsN lo u (.slice (some ⟨E, 0, none⟩) 0 0) []) {x : Value} {ys : List Int} (hx : Ints u x ys) (hlo : lo ≤ u.heap.size) (hbig : ys.length ≤ 1000000000000) (ty : TypeId) :
    ∃ a n c, ∃ q : Later u, (Builtin.append_ #[25, 25] ty #[.slice (some ⟨E, 0, none⟩) 0 0, x]).run Try.prog u = .ok (.slice a n c) q.w ∧ IntsN lo q.w (.slice a n c) ys := by
  obtain ⟨v', w', h1, h2, h3⟩ := run_app_ints u lo _ x [] ys hE hx hlo (by simpa using hbig) ty
  rw [List.nil_append] at h2
  obtain ⟨a, n, c, rfl⟩ := h2.form'
  obtain ⟨i, hi, hz, hsz, hby⟩ := info_int
  by_cases hy : ys = []
  · have hs := src_ints hx i hsz
    have h4 := run_append_nothing u _ _ ty _ i Try.underlying25 hi (some ⟨E, 0, none⟩) 0 0 (Nat.le_refl _) x (hy ▸ hs)
    obtain ⟨_, rfl⟩ := ok_inj (h4.symm.trans h1)
    exact ⟨a, n, c, Later.self _, h1, h2⟩
  · obtain ⟨b, off, cap, rfl, hcp, hlt, hc⟩ := hx.at (k := 0) (by cases ys with | nil => exact absurd rfl hy | cons _ _ => simp)
    have hl : 0 < ys.length := by cases ys with | nil => exact absurd rfl hy | cons _ _ => simp
    have h4 := run_append_grow (P := Try.prog) u 25 ty 3 i (.int .i64 0) Try.underlying25 hi hz ⟨E, 0, none⟩ 0 0 [] (by simp) (by simp) ⟨b, off, none⟩ ys.length cap
      (ys.map (Value.int .i64)) (by rw [hsz]; simp) (by
        intro j v hj
        rw [List.getElem?_map] at hj
        obtain ⟨y, hy, rfl⟩ := Option.map_eq_some_iff.1 hj
        have hjl := (List.getElem?_eq_some_iff.1 hy).1
        have := hc j hjl
        rw [nth_eq hjl, (List.getElem?_eq_some_iff.1 hy).2] at this
        rw [Addr.add_lit]
        exact this) (by omega) (by omega) (growslice_fits (by omega) (by rw [hby]; omega))
    obtain ⟨_, e⟩ := ok_inj (h4.symm.trans h1)
    subst e
    exact ⟨a, n, c, (Later.draw u).step (Later.new _ _), h1, h2⟩
/-- append([][]int{}, x...) of lists that were there changes nothing that was there -/
theorem app_rows_empty {w0 : World} (y : Later w0) {lx lo E : Nat} (hl0 : w0.heap.size ≤ lx) (hl : lx ≤ lo) {x : Value} {xss : List (List Int)} (hv : y.w.ownsRow lo 25 1 (.slice (some ⟨E, 0, none⟩) 0 0) 0 []) (hx : Rows2 w0 x xss) (hne : 0 < xss.length) (hlo : lo ≤ y.w.heap.size) (hbig : xss.length ≤ 1000000000000) (ty : TypeId) :
    ∃ a n c, ∃ q : Later y.w, (Builtin.append_ #[22, 22] ty #[.slice (some ⟨E, 0, none⟩) 0 0, x]).run Try.prog y.w = .ok (.slice a n c) q.w ∧ Rows3 lx lo q.w (.slice a n c) xss := by
  obtain ⟨a, n, c, w', h1, h2, h3⟩ := app_rows3 y hl0 hl hv hx hne hlo hbig ty
  obtain ⟨i, hi, hz, hsz, hby⟩ := info_slice
  obtain ⟨b, off, cap, f, rfl, hcp, hlt, hc⟩ := hx.at hne
  have h4 := run_append_grow (P := Try.prog) y.w 22 ty 25 i (.slice none 0 0) Try.underlying22 hi hz ⟨E, 0, none⟩ 0 0 [] (by simp) (by simp) ⟨b, off, none⟩ xss.length cap
    ((List.range xss.length).map f) (by rw [hsz]; simp) (by
      intro j u hj
      rw [List.getElem?_map] at hj
      obtain ⟨k, hk, rfl⟩ := Option.map_eq_some_iff.1 hj
      obtain ⟨hjl, e⟩ := List.getElem?_eq_some_iff.1 hk
      rw [List.getElem_range] at e
      subst e
      rw [List.length_range] at hjl
      rw [Addr.add_lit]
      exact (y.cell hlt).trans (hc j hjl).1) (by omega) (by omega) (growslice_fits (by omega) (by rw [hby]; omega))
  obtain ⟨_, e⟩ := ok_inj (h4.symm.trans h1)
  subst e
  exact ⟨a, n, c, (Later.draw y.w).step (Later.new _ _), h1, h2⟩
/-- where append(v, y) puts its block -/
theorem app_int_where {w : World} {lo : Nat} {v : Value} {xs : List Int} (hv : IntsN lo w v xs) {b : Nat} {y : Int} (hb : w.cell? ⟨b, 0, none⟩ = some (.int .i64 y)) (hbig : xs.length + 1 ≤ 1000000000000) {ty : TypeId} {v' : Value} {w' : World}
    (h : (Builtin.append_ #[25, 25] ty #[v, .slice (some ⟨b, 0, none⟩) 1 1]).run Try.prog w = .ok v' w') : v'.ownBlock = v.ownBlock ∨ v'.ownBlock = some w.heap.size := by
  obtain ⟨i, hi, hz, hsz, hby⟩ := info_int
  have hnews : ∀ j u, ([Value.int .i64 y] : List Value)[j]? = some u → w.cell? ((⟨b, 0, none⟩ : Addr).add j) = some u := by
    intro j u hj
    match j with
    | 0 => simp at hj; subst hj; rw [Addr.add_lit]; exact hb
    | j + 1 => simp at hj
  have hv0 := hv
  obtain ⟨_, ⟨rfl, h0⟩ | ⟨g, cap, cur, rfl, _, hg, hnc, hcm, hcs, htk⟩⟩ := hv
  · have h4 := run_append_nil (P := Try.prog) w 25 ty 3 i (.int .i64 0) Try.underlying25 hi hz ⟨b, 0, none⟩ 1 1 [.int .i64 y] (by rw [hsz]; rfl) hnews (by omega) (by omega) (by rw [hby]; omega)
    obtain ⟨rfl, _⟩ := ok_inj (h4.symm.trans h)
    exact .inr rfl
  · by_cases hroom : xs.length + 1 ≤ cap
    · have h4 := run_append_room (P := Try.prog) w 25 ty 3 i Try.underlying25 hi g xs.length cap cur hg ⟨b, 0, none⟩ 1 1 [.int .i64 y] (by rw [hsz]; rfl) hnews (by intro u hu; simp at hu; subst hu; rfl) hroom (by rw [hsz, hcs]; simp; omega)
      obtain ⟨rfl, _⟩ := ok_inj (h4.symm.trans h)
      exact .inl rfl
    · have h4 := run_append_grow (P := Try.prog) w 25 ty 3 i (.int .i64 0) Try.underlying25 hi hz ⟨g, 0, none⟩ xs.length cap (xs.map (Value.int .i64)) (by rw [hsz]; simp) (fun j u hj => hv0.cells (g := g) rfl j u hj) ⟨b, 0, none⟩ 1 1 [.int .i64 y] (by rw [hsz]; rfl) hnews (by omega) (by omega) (growslice_fits (by omega) (by rw [hby]; omega))
      obtain ⟨rfl, _⟩ := ok_inj (h4.symm.trans h)
      exact .inr rfl
/-- xs[j:] -/
theorem Ints.fromS {w : World} {b off n c : Nat} {xs : List Int} (h : Ints w (.slice (some ⟨b, off, none⟩) n c) xs) {j : Nat} (hj : j ≤ xs.length) : Ints w (.slice (if c = j then some ⟨b, off, none⟩ else some ⟨b, off + j, none⟩) (xs.length - j) (c - j)) (xs.drop j) := by
  by_cases h0 : xs.length - j = 0
  · have : xs.drop j = [] := List.drop_eq_nil_of_le (by omega)
    rw [this, h0]
    exact Ints.nil _ _
  · have hc : xs.length ≤ c := by
      obtain ⟨_, _, _, e, hcp, _⟩ := h.at (k := 0) (by omega)
      cases e; exact hcp
    rw [if_neg (by omega)]
    exact (h.dropS hj (c - j)).resolve_right (by omega)
/-- two int slices in different blocks -/
def Apart2 (u v : Value) : Prop := ∀ b off n c, u = .slice (some ⟨b, off, none⟩) n c → n ≠ 0 → some b ≠ v.ownBlock
theorem Apart2.sub {b o o' n c m d : Nat} {v : Value} {p : Prop} [Decidable p] (h : Apart2 (.slice (some ⟨b, o, none⟩) n c) v) (hn : n ≠ 0) : Apart2 (.slice (if p then some ⟨b, o, none⟩ else some ⟨b, o', none⟩) m d) v := by
  have hb := h b o n c rfl hn
  intro b' off' n' c' e _
  split at e <;> cases e <;> exact hb
theorem IntsN.of_block {w : World} {lo E : Nat} (hlo : lo ≤ E) (h : w.heap[E]? = some (.cells #[] 3)) : IntsN lo w (.slice (some ⟨E, 0, none⟩) 0 0) [] :=
  ⟨rfl, .inr ⟨E, 0, #[], rfl, hlo, h, Nat.le_refl _, by simp [maxLen], rfl, rfl⟩⟩
theorem Apart2.of_lt {w : World} {lo : Nat} {u v : Value} {xs : List Int} (h : IntsN lo w u xs) (hv : ∀ k, v.ownBlock = some k → k < lo) : Apart2 u v := by
  rintro b off n c rfl _ e
  have h1 := (World.ownsRow.lt h b rfl).1
  have := hv b e.symm
  omega
end Go.Proofs.Ytieaibebnkdmhaa
