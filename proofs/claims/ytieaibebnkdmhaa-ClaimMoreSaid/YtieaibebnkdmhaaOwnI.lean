/-  Lists of numbers that a call makes by 'append': plain law over the program's table of types. -/
import Derived.Test.YtieaibebnkdmhaaLists2
import Derived.Laws.OwnMore
namespace Go.Proofs.Ytieaibebnkdmhaa
open Go.RowKit

/-- a slice of one's own that reads as a list -/
def IntsN (lo : Nat) (w : World) (v : Value) (xs : List Int) : Prop := w.ownsRow lo 3 1 v xs.length (xs.map (Value.int .i64))
theorem IntsN.nil (lo : Nat) (w : World) : IntsN lo w (.slice none 0 0) [] := World.ownsRow_nil _ _ _ _
theorem IntsN.form {lo : Nat} {w : World} {v : Value} {xs : List Int} (h : IntsN lo w v xs) : ∃ a c, v = .slice a xs.length c := by
  obtain ⟨_, ⟨rfl, h0⟩ | ⟨g, cap, cur, rfl, _⟩⟩ := h
  · rw [h0]; exact ⟨_, _, rfl⟩
  · exact ⟨_, _, rfl⟩
theorem IntsN.form' {lo : Nat} {w : World} {v : Value} {xs : List Int} (h : IntsN lo w v xs) : ∃ a n c, v = .slice a n c := by
  obtain ⟨a, c, e⟩ := h.form; exact ⟨a, _, c, e⟩
theorem IntsN.cap {lo : Nat} {w : World} {a : Option Addr} {n c : Nat} {xs : List Int} (h : IntsN lo w (.slice a n c) xs) : xs.length ≤ c := by
  obtain ⟨_, ⟨e, h0⟩ | ⟨g, cap, cur, e, _, _, hn, _⟩⟩ := h
  · rw [h0]; exact Nat.zero_le _
  · cases e; exact hn
theorem IntsN.ints {lo : Nat} {w : World} {v : Value} {xs : List Int} (h : IntsN lo w v xs) (hl : xs.length ≤ 9007199254740992) : Ints w v xs := by
  obtain ⟨h1, ⟨rfl, h0⟩ | ⟨g, cap, cur, rfl, _, hg, hnc, hcm, hcs, htk⟩⟩ := h
  · have : xs = [] := List.eq_nil_of_length_eq_zero h0
    subst this
    exact Ints.nil none 0
  · refine ⟨hl, .inr ⟨g, 0, cap, rfl, hnc, (Array.getElem?_eq_some_iff.1 hg).1, fun k hk => ?_⟩⟩
    have e : (cur.toList.take (xs.length * 1))[k]? = some (Value.int .i64 (nth xs k)) := by
      rw [htk, nth_eq hk]; simp [hk]
    rw [List.getElem?_take, if_pos (by omega)] at e
    simp only [World.cell?, hg, Nat.zero_add]
    simpa using e
theorem IntsN.kept {lo : Nat} {w w' : World} {v : Value} {xs : List Int} (h : IntsN lo w v xs) {r : Option Nat} (hg : w.grownBy w' r) (hne : v.ownBlock = none ∨ v.ownBlock ≠ r) : IntsN lo w' v xs := World.ownsRow.kept h hg hne
theorem IntsN.later {lo : Nat} {w : World} {v : Value} {xs : List Int} (h : IntsN lo w v xs) (x : Later w) : IntsN lo x.w v xs :=
  h.kept (r := none) ⟨x.le.os, x.le.tape, x.le.output, x.size, fun k hk _ => x.le.block k hk⟩ (by cases hv : v.ownBlock <;> simp)
theorem IntsN.mono {lo lo' : Nat} {w : World} {v : Value} {xs : List Int} (h : IntsN lo w v xs) (hl : lo' ≤ lo) : IntsN lo' w v xs := by
  obtain ⟨h1, h2⟩ := h
  refine ⟨h1, h2.imp id ?_⟩
  rintro ⟨g, cap, cur, hv, hg, r⟩
  exact ⟨g, cap, cur, hv, by omega, r⟩
theorem IntsN.below {lo : Nat} {w w' : World} {v : Value} {xs : List Int} (h : IntsN lo w v xs) (hg : w.grownBy w' v.ownBlock) (hlo : lo ≤ w.heap.size) : Below lo w w' :=
  (Below.refl lo w).grown hg hlo fun k hk => (World.ownsRow.lt h k hk).1
/-- []int{} -/
theorem IntsN.empty (w : World) {lo b : Nat} (hb : b = w.heap.size) (hlo : lo ≤ w.heap.size) : IntsN lo (w.alloc (.cells #[] 3)) (.slice (some ⟨b, 0, none⟩) 0 0) [] := by
  subst hb; exact World.ownsRow_made w #[] 0 hlo (by simp [maxLen]) rfl

theorem src_ints {w : World} {x : Value} {ys : List Int} (hx : Ints w x ys) (i : TypeInfo) (hsz : i.size = 1) : Src Try.prog i.size 25 x ys.length (ys.map (Value.int .i64)) w := by
  obtain ⟨_, ⟨rfl, a, cap, rfl⟩ | ⟨b, off, cap, rfl, hcp, hlt, hc⟩⟩ := hx
  · cases a with
    | none => exact Src.ofNil w (e' := 3) Try.underlying25 cap
    | some ad => exact Src.ofSlice w (e' := 3) Try.underlying25 ad 0 cap [] (by simp) (by simp) (by simp)
  · refine Src.ofSlice w (e' := 3) Try.underlying25 ⟨b, off, none⟩ ys.length cap (ys.map (Value.int .i64)) (by rw [hsz]; simp) (fun j u hj => ?_) (fun u hu => ?_)
    · rw [List.getElem?_map] at hj
      obtain ⟨y, hy, rfl⟩ := Option.map_eq_some_iff.1 hj
      have hjl := (List.getElem?_eq_some_iff.1 hy).1
      have := hc j hjl
      rw [nth_eq hjl, (List.getElem?_eq_some_iff.1 hy).2] at this
      rw [Addr.add_lit]
      exact this
    · obtain ⟨y, _, rfl⟩ := List.mem_map.1 hu; rfl

/-- append(v, x...) -/
theorem run_app_ints (w : World) (lo : Nat) (v x : Value) (xs ys : List Int) (hv : IntsN lo w v xs) (hx : Ints w x ys) (hlo : lo ≤ w.heap.size) (hbig : xs.length + ys.length ≤ 1000000000000) (ty : TypeId) :
    ∃ v' w', (Builtin.append_ #[25, 25] ty #[v, x]).run Try.prog w = .ok v' w' ∧ IntsN lo w' v' (xs ++ ys) ∧ w.grownBy w' v.ownBlock := by
  obtain ⟨i, hi, hz, hsz, hby⟩ := info_int
  have hs := src_ints hx i hsz
  by_cases hy : ys = []
  · subst hy
    obtain ⟨a, c, rfl⟩ := hv.form
    refine ⟨_, w, run_append_nothing w _ _ ty _ i Try.underlying25 hi a xs.length c hv.cap _ hs, ?_, ⟨rfl, rfl, rfl, Nat.le_refl _, fun _ _ _ => rfl⟩⟩
    rw [List.append_nil]; exact hv
  · obtain ⟨b, off, cap, rfl, hcp, hlt, hc⟩ := hx.at (k := 0) (by cases ys with | nil => exact absurd rfl hy | cons _ _ => simp)
    obtain ⟨v', w', hrun, hown2, hg2, _⟩ := run_append_own w lo 25 ty 3 i (.int .i64 0) 1 8 Try.underlying25 hi hz hsz hby rfl (by decide) v xs.length _ hv ⟨b, off, none⟩ ys.length cap
      (ys.map (Value.int .i64)) (by simp) (by
        intro j u hj
        rw [List.getElem?_map] at hj
        obtain ⟨y, hy, rfl⟩ := Option.map_eq_some_iff.1 hj
        have hjl := (List.getElem?_eq_some_iff.1 hy).1
        have := hc j hjl
        rw [nth_eq hjl, (List.getElem?_eq_some_iff.1 hy).2] at this
        rw [Addr.add_lit]
        exact this) (by
        intro u hu
        obtain ⟨k, _, rfl⟩ := List.mem_map.1 hu
        rfl) (by simp only [maxLen]; omega) (by omega) hlo
    refine ⟨v', w', hrun, ?_, hg2⟩
    rw [← List.map_append, ← List.length_append] at hown2
    exact hown2
/-- append(v, y) -/
theorem run_app_int (w : World) (lo : Nat) (v : Value) (xs : List Int) (b c : Nat) (y : Int) (hv : IntsN lo w v xs) (hb : w.cell? ⟨b, 0, none⟩ = some (.int .i64 y)) (hc : 1 ≤ c) (hlo : lo ≤ w.heap.size) (hbig : xs.length + 1 ≤ 1000000000000) (ty : TypeId) :
    ∃ v' w', (Builtin.append_ #[25, 25] ty #[v, .slice (some ⟨b, 0, none⟩) 1 c]).run Try.prog w = .ok v' w' ∧ IntsN lo w' v' (xs ++ [y]) ∧ w.grownBy w' v.ownBlock := by
  refine run_app_ints w lo v _ xs [y] hv ⟨by simp, .inr ⟨b, 0, c, rfl, hc, World.block_lt_of_cell? w ⟨b, 0, none⟩ hb, fun k hk => ?_⟩⟩ hlo hbig ty
  obtain rfl : k = 0 := by simpa using hk
  exact hb

/-- a list that lies below lo, or in a block of numbers -/
def Sep (lo : Nat) (w : World) (u : Value) : Prop := ∀ b off n c, u = .slice (some ⟨b, off, none⟩) n c → n ≠ 0 → b < lo ∨ ∃ cs z, w.heap[b]? = some (.cells cs 3 z)
theorem Sep.later {lo : Nat} {w : World} {u : Value} (h : Sep lo w u) (x : Later w) : Sep lo x.w u := fun b off n c e hn => by
  rcases h b off n c e hn with h | ⟨cs, z, h⟩
  · exact .inl h
  · exact .inr ⟨cs, z, (x.le.block b (Array.getElem?_eq_some_iff.1 h).1).trans h⟩
theorem Sep.of_ints {w W : World} {u : Value} {xs : List Int} (h : Ints w u xs) : Sep w.heap.size W u := fun b off n c e hn => by
  obtain ⟨_, ⟨_, a, cp, e2⟩ | ⟨b', off', cp, e2, _, hb, _⟩⟩ := h
  · rw [e2] at e; cases e; exact absurd rfl hn
  · rw [e2] at e; cases e; exact .inl hb
theorem Sep.of_own {lo lo' : Nat} {w : World} {u : Value} {xs : List Int} (h : IntsN lo' w u xs) : Sep lo w u := fun b off n c e hn => by
  obtain ⟨_, ⟨e2, _⟩ | ⟨g, cap, cur, e2, _, hg, _⟩⟩ := h
  · rw [e2] at e; cases e
  · rw [e2] at e; cases e; exact .inr ⟨_, _, hg⟩
/-- Several lists, in a slice of one's own: the lists lie below it, or in blocks of numbers. -/
def Rows2M (lo : Nat) (w : World) (v : Value) (xss : List (List Int)) : Prop :=
  ∃ vs : List Value, vs.length = xss.length ∧ w.ownsRow lo 25 1 v xss.length vs ∧
    ∀ k, k < xss.length → Ints w (vs.getD k undef) (row xss k) ∧ Sep lo w (vs.getD k undef)
theorem Rows2M.nil (lo : Nat) (w : World) : Rows2M lo w (.slice none 0 0) [] := ⟨[], rfl, World.ownsRow_nil _ _ _ _, fun _ hk => absurd hk (Nat.not_lt_zero _)⟩
theorem Rows2M.form {lo : Nat} {w : World} {v : Value} {xss : List (List Int)} (h : Rows2M lo w v xss) : ∃ a c, v = .slice a xss.length c := by
  obtain ⟨_, _, ⟨_, ⟨rfl, h0⟩ | ⟨g, cap, cur, rfl, _⟩⟩, _⟩ := h
  · rw [h0]; exact ⟨_, _, rfl⟩
  · exact ⟨_, _, rfl⟩
theorem Rows2M.form' {lo : Nat} {w : World} {v : Value} {xss : List (List Int)} (h : Rows2M lo w v xss) : ∃ a n c, v = .slice a n c := by
  obtain ⟨a, c, e⟩ := h.form; exact ⟨a, _, c, e⟩
theorem Rows2M.cap {lo : Nat} {w : World} {a : Option Addr} {n c : Nat} {xss : List (List Int)} (h : Rows2M lo w (.slice a n c) xss) : xss.length ≤ c := by
  obtain ⟨_, _, ⟨_, ⟨e, h0⟩ | ⟨g, cap, cur, e, _, _, hn, _⟩⟩, _⟩ := h
  · rw [h0]; exact Nat.zero_le _
  · cases e; exact hn
theorem Rows2M.rows {lo : Nat} {w : World} {v : Value} {xss : List (List Int)} (h : Rows2M lo w v xss) (hl : xss.length ≤ 9007199254740992) : Rows2 w v xss := by
  obtain ⟨vs, hvl, ⟨h1, ⟨rfl, h0⟩ | ⟨g, cap, cur, rfl, _, hg, hnc, hcm, hcs, htk⟩⟩, hr⟩ := h
  · have : xss = [] := List.eq_nil_of_length_eq_zero h0
    subst this
    exact ⟨by simp, .inl ⟨rfl, none, 0, rfl⟩⟩
  · refine ⟨hl, .inr ⟨g, 0, cap, fun k => vs.getD k undef, rfl, hnc, (Array.getElem?_eq_some_iff.1 hg).1, fun k hk => ⟨?_, (hr k hk).1⟩⟩⟩
    have e : (cur.toList.take (xss.length * 1))[k]? = some (vs.getD k undef) := by
      rw [htk]; simp [hvl, hk]
    rw [List.getElem?_take, if_pos (by omega)] at e
    simp only [World.cell?, hg, Nat.zero_add]
    simpa using e
theorem Rows2M.later {lo : Nat} {w : World} {v : Value} {xss : List (List Int)} (h : Rows2M lo w v xss) (x : Later w) : Rows2M lo x.w v xss := by
  obtain ⟨vs, hvl, hown, hr⟩ := h
  exact ⟨vs, hvl, hown.kept (row := none) ⟨x.le.os, x.le.tape, x.le.output, x.size, fun k hk _ => x.le.block k hk⟩ (by cases hv : v.ownBlock <;> simp), fun k hk => ⟨(hr k hk).1.later x, (hr k hk).2.later x⟩⟩
theorem Rows2M.lt {lo : Nat} {w : World} {v : Value} {xss : List (List Int)} (h : Rows2M lo w v xss) {k : Nat} (hk : v.ownBlock = some k) : lo ≤ k ∧ k < w.heap.size := by
  obtain ⟨vs, hvl, hown, _⟩ := h
  exact hown.lt k hk
theorem Rows2M.below {lo : Nat} {w w' : World} {v : Value} {xss : List (List Int)} (h : Rows2M lo w v xss) (hg : w.grownBy w' v.ownBlock) (hlo : lo ≤ w.heap.size) : Below lo w w' :=
  (Below.refl lo w).grown hg hlo fun _ hk => (h.lt hk).1
theorem Ints.kept {w w' : World} {u : Value} {xs : List Int} (h : Ints w u xs) {r : Option Nat} (hg : w.grownBy w' r) (hne : ∀ b off n c, u = .slice (some ⟨b, off, none⟩) n c → n ≠ 0 → some b ≠ r) : Ints w' u xs := by
  obtain ⟨h1, h2 | ⟨b, off, cap, hv, hl, hb, hc⟩⟩ := h
  · exact ⟨h1, .inl h2⟩
  · by_cases hx : xs = []
    · subst hx; exact ⟨h1, .inl ⟨rfl, _, _, hv⟩⟩
    · exact ⟨h1, .inr ⟨b, off, cap, hv, hl, Nat.lt_of_lt_of_le hb hg.size, fun k hk => hg.cell (hc k hk) (hne b off _ _ hv (by simpa using hx))⟩⟩
/-- another block than the one of lists -/
theorem Sep.ne {lo : Nat} {w : World} {u v : Value} {n : Nat} {vs : List Value} (h : Sep lo w u) (hown : w.ownsRow lo 25 1 v n vs) (b off m c) (e : u = .slice (some ⟨b, off, none⟩) m c) (hm : m ≠ 0) : some b ≠ v.ownBlock := fun hb => by
  rcases h b off m c e hm with h | ⟨cs, z, h⟩
  · have := (hown.lt b hb.symm).1; omega
  · rcases hown.2 with ⟨rfl, _⟩ | ⟨g, cap, cur, rfl, _, hg, _⟩
    · simp [Value.ownBlock] at hb
    · simp [Value.ownBlock] at hb
      subst hb
      rw [hg] at h
      simp at h
theorem Sep.kept {lo : Nat} {w w' : World} {u : Value} (h : Sep lo w u) {r : Option Nat} (hg : w.grownBy w' r) (hne : ∀ b off n c, u = .slice (some ⟨b, off, none⟩) n c → n ≠ 0 → some b ≠ r) : Sep lo w' u := fun b off n c e hn => by
  rcases h b off n c e hn with h2 | ⟨cs, z, h2⟩
  · exact .inl h2
  · exact .inr ⟨cs, z, (hg.block b (Array.getElem?_eq_some_iff.1 h2).1 (hne b off n c e hn)).trans h2⟩
/-- append(v, x) of a list to lists -/
theorem run_app_row (w : World) (lo : Nat) (v x : Value) (xss : List (List Int)) (ys : List Int) (b c : Nat) (hv : Rows2M lo w v xss) (hx : Ints w x ys) (hxs : Sep lo w x) (hlo : lo ≤ w.heap.size)
    (hb : w.cell? ⟨b, 0, none⟩ = some x) (hbig : xss.length + 1 ≤ 1000000000000) (ty : TypeId) :
    ∃ v' w', (Builtin.append_ #[22, 22] ty #[v, .slice (some ⟨b, 0, none⟩) 1 c]).run Try.prog w = .ok v' w' ∧ Rows2M lo w' v' (xss ++ [ys]) ∧ w.grownBy w' v.ownBlock := by
  obtain ⟨i, hi, hz, hsz, hby⟩ := info_slice
  obtain ⟨vs, hvl, hown, hr⟩ := hv
  have hx1 : x.oneCell' = true := by obtain ⟨a, c, rfl⟩ := hx.form; rfl
  obtain ⟨v', w', hrun, hown2, hg2, _⟩ := run_append_own w lo 22 ty 25 i (.slice none 0 0) 1 24 Try.underlying22 hi hz hsz hby rfl (by decide) v xss.length _ hown ⟨b, 0, none⟩ 1 c
    [x] rfl (by
      intro j u hj
      match j with
      | 0 => simp at hj; subst hj; exact hb
      | j + 1 => simp at hj) (by
      intro u hu
      simp at hu; subst hu; exact hx1) (by simp only [maxLen]; omega) (by omega) hlo
  refine ⟨v', w', hrun, ⟨vs ++ [x], by simp [hvl], by rw [List.length_append]; exact hown2, fun k hk => ?_⟩, hg2⟩
  by_cases hlt : k < xss.length
  · have e1 : (vs ++ [x]).getD k undef = vs.getD k undef := by simp [List.getD_eq_getElem?_getD, List.getElem?_append_left (show k < vs.length by omega)]
    have e2 : row (xss ++ [ys]) k = row xss k := by simp [row, List.getD_eq_getElem?_getD, List.getElem?_append_left hlt]
    rw [e1, e2]
    obtain ⟨h1, h2⟩ := hr k hlt
    have hne := h2.ne hown
    exact ⟨h1.kept hg2 hne, h2.kept hg2 hne⟩
  · obtain rfl : k = xss.length := by simp at hk; omega
    have e1 : (vs ++ [x]).getD xss.length undef = x := by simp [List.getD_eq_getElem?_getD, ← hvl]
    have e2 : row (xss ++ [ys]) xss.length = ys := by simp [row]
    rw [e1, e2]
    have hne := hxs.ne hown
    exact ⟨hx.kept hg2 hne, hxs.kept hg2 hne⟩
/-- append(v, y) at a world behind W, of which v is made anew -/
theorem app_int_step {W wr : World} (hB : Below W.heap.size W wr) {v : Value} {xs : List Int} (hA : IntsN W.heap.size wr v xs) (y : Int) (hbig : xs.length + 1 ≤ 1000000000000) (ty : TypeId) :
    ∃ v', ∃ q : Later W, (Builtin.append_ #[25, 25] ty #[v, .slice (some ⟨wr.heap.size, 0, none⟩) 1 1]).run Try.prog (wr.alloc (.cells #[.int .i64 y] 3)) = .ok v' q.w ∧ IntsN W.heap.size q.w v' (xs ++ [y]) ∧ wr.grownBy q.w v.ownBlock := by
  have hA' := hA.later (Later.new wr (.cells #[.int .i64 y] 3))
  rw [Later.new_w] at hA'
  obtain ⟨v', w', h1, h2, h3⟩ := run_app_int (wr.alloc (.cells #[.int .i64 y] 3)) W.heap.size v xs wr.heap.size 1 y hA' (by simp [go_sem]) (Nat.le_refl _) (by have := hB.size; simp; omega) hbig ty
  have hb := hA'.below h3 (by have := hB.size; simp; omega)
  exact ⟨v', ⟨w', ((hB.alloc hB.size _).trans hb)⟩, h1, h2, ⟨h3.os, h3.tape, h3.output, Nat.le_trans (by simp) h3.size, fun k hk hne => (h3.block k (by simp; omega) hne).trans (Below.heap_alloc _ _ k hk)⟩⟩
/-- append(v, x) of a list x -/
theorem app_row_step {W wr : World} (hB : Below W.heap.size W wr) {v x : Value} {xss : List (List Int)} {ys : List Int} (hA : Rows2M W.heap.size wr v xss) (hx : Ints wr x ys) (hs : Sep W.heap.size wr x) (hbig : xss.length + 1 ≤ 1000000000000) (ty : TypeId) :
    ∃ v', ∃ q : Later W, (Builtin.append_ #[22, 22] ty #[v, .slice (some ⟨wr.heap.size, 0, none⟩) 1 1]).run Try.prog (wr.alloc (.cells #[x] 25)) = .ok v' q.w ∧ Rows2M W.heap.size q.w v' (xss ++ [ys]) ∧ wr.grownBy q.w v.ownBlock := by
  have hA' := hA.later (Later.new wr (.cells #[x] 25))
  have hx' := hx.later (Later.new wr (.cells #[x] 25))
  have hs' := hs.later (Later.new wr (.cells #[x] 25))
  rw [Later.new_w] at hA' hx' hs'
  obtain ⟨v', w', h1, h2, h3⟩ := run_app_row (wr.alloc (.cells #[x] 25)) W.heap.size v x xss ys wr.heap.size 1 hA' hx' hs' (by have := hB.size; simp; omega) (by simp [go_sem]) hbig ty
  have hb := hA'.below h3 (by have := hB.size; simp; omega)
  exact ⟨v', ⟨w', ((hB.alloc hB.size _).trans hb)⟩, h1, h2, ⟨h3.os, h3.tape, h3.output, Nat.le_trans (by simp) h3.size, fun k hk hne => (h3.block k (by simp; omega) hne).trans (Below.heap_alloc _ _ k hk)⟩⟩
/-- append(v, x...) -/
theorem app_ints_step {W wr : World} (hB : Below W.heap.size W wr) {v x : Value} {xs ys : List Int} (hA : IntsN W.heap.size wr v xs) (hx : Ints wr x ys) (hbig : xs.length + ys.length ≤ 1000000000000) (ty : TypeId) :
    ∃ v', ∃ q : Later W, (Builtin.append_ #[25, 25] ty #[v, x]).run Try.prog wr = .ok v' q.w ∧ IntsN W.heap.size q.w v' (xs ++ ys) ∧ wr.grownBy q.w v.ownBlock := by
  obtain ⟨v', w', h1, h2, h3⟩ := run_app_ints wr W.heap.size v x xs ys hA hx hB.size hbig ty
  exact ⟨v', ⟨w', hB.trans (hA.below h3 hB.size)⟩, h1, h2, h3⟩
end Go.Proofs.Ytieaibebnkdmhaa
