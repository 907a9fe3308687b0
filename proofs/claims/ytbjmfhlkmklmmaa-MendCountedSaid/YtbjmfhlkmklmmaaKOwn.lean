import Derived.Deep.AppendSrc
import Derived.Deep.Upon
import Derived.Maps.AppendAt
import Derived.Laws.CopyRow
import Derived.Lib.SlFresh
import Derived.Laws.OwnMore
import Derived.Test.YtbjmfhlkmklmmaaKBase
/-  Lists of numbers that a call makes by 'append': plain law over the program's table of types; for []int64 (..N) and for []int (..M). -/
namespace Go.Proofs.Ytbjmfhlkmklmmaa
open Go.RowKit
theorem ok_inj {α : Type} {a b : α} {w w' : World} (h : (Result.ok a w : Result α) = .ok b w') : a = b ∧ w = w' := by cases h; exact ⟨rfl, rfl⟩

theorem info_intN : ∃ i : TypeInfo, Try.prog.info? 2 = some i ∧ i.zero = some (.int .i64 0) ∧ i.size = 1 ∧ i.bytes = 8 := by
  have h : (Try.prog.info? 2).map (fun i => (i.zero, i.size, i.bytes)) = some (some (.int .i64 0), 1, 8) := by kernel_rfl
  obtain ⟨i, hi, hz⟩ := Option.map_eq_some_iff.1 h
  simp only [Prod.mk.injEq] at hz
  exact ⟨i, hi, hz.1, hz.2.1, hz.2.2⟩
/-- a slice of one's own that reads as a list -/
def IntsN (lo : Nat) (w : World) (v : Value) (xs : List Int) : Prop := w.ownsRow lo 2 1 v xs.length (xs.map (Value.int .i64))
theorem IntsN.nil (lo : Nat) (w : World) : IntsN lo w (.slice none 0 0) [] := World.ownsRow_nil _ _ _ _
theorem IntsN.form {lo : Nat} {w : World} {v : Value} {xs : List Int} (h : IntsN lo w v xs) : ∃ a c, v = .slice a xs.length c := by
  obtain ⟨_, ⟨rfl, h0⟩ | ⟨g, cap, cur, rfl, _⟩⟩ := h
  · rw [h0]; exact ⟨_, _, rfl⟩
  · exact ⟨_, _, rfl⟩
theorem IntsN.form' {lo : Nat} {w : World} {v : Value} {xs : List Int} (h : IntsN lo w v xs) : ∃ a n c, v = .slice a n c := by
  obtain ⟨a, c, e⟩ := h.form; exact ⟨a, _, c, e⟩
theorem IntsN.cap {lo : Nat} {w : World} {a : Option Addr} {n c : Nat} {xs : List Int} (h : IntsN lo w (.slice a n c) xs) : xs.length ≤ c := by
  obtain ⟨_, ⟨e, h0⟩ | ⟨g, cap, cur, e, _, _, hn, _⟩⟩ := h
  · rw [h0]; exact Nat.zero_le _
  · cases e; exact hn
theorem IntsN.ints {lo : Nat} {w : World} {v : Value} {xs : List Int} (h : IntsN lo w v xs) (hl : xs.length ≤ 9007199254740992) : Ints w v xs := by
  obtain ⟨h1, ⟨rfl, h0⟩ | ⟨g, cap, cur, rfl, _, hg, hnc, hcm, hcs, htk⟩⟩ := h
  · have : xs = [] := List.eq_nil_of_length_eq_zero h0
    subst this
    exact Ints.nil none 0
  · refine ⟨hl, .inr ⟨g, 0, cap, rfl, hnc, (Array.getElem?_eq_some_iff.1 hg).1, fun k hk => ?_⟩⟩
    have e : (cur.toList.take (xs.length * 1))[k]? = some (Value.int .i64 (nth xs k)) := by
      rw [htk, nth_eq hk]; simp [hk]
    rw [List.getElem?_take, if_pos (by omega)] at e
    simp only [World.cell?, hg, Nat.zero_add]
    simpa using e
theorem IntsN.kept {lo : Nat} {w w' : World} {v : Value} {xs : List Int} (h : IntsN lo w v xs) {r : Option Nat} (hg : w.grownBy w' r) (hne : v.ownBlock = none ∨ v.ownBlock ≠ r) : IntsN lo w' v xs := World.ownsRow.kept h hg hne
theorem IntsN.later {lo : Nat} {w : World} {v : Value} {xs : List Int} (h : IntsN lo w v xs) (x : Later w) : IntsN lo x.w v xs :=
  h.kept (r := none) ⟨x.le.os, x.le.tape, x.le.output, x.size, fun k hk _ => x.le.block k hk⟩ (by cases hv : v.ownBlock <;> simp)
theorem IntsN.mono {lo lo' : Nat} {w : World} {v : Value} {xs : List Int} (h : IntsN lo w v xs) (hl : lo' ≤ lo) : IntsN lo' w v xs := by
  obtain ⟨h1, h2⟩ := h
  refine ⟨h1, h2.imp id ?_⟩
  rintro ⟨g, cap, cur, hv, hg, r⟩
  exact ⟨g, cap, cur, hv, by omega, r⟩
theorem IntsN.below {lo : Nat} {w w' : World} {v : Value} {xs : List Int} (h : IntsN lo w v xs) (hg : w.grownBy w' v.ownBlock) (hlo : lo ≤ w.heap.size) : Below lo w w' :=
  (Below.refl lo w).grown hg hlo fun k hk => (World.ownsRow.lt h k hk).1
/-- []int{} -/
theorem IntsN.empty (w : World) {lo b : Nat} (hb : b = w.heap.size) (hlo : lo ≤ w.heap.size) : IntsN lo (w.alloc (.cells #[] 2)) (.slice (some ⟨b, 0, none⟩) 0 0) [] := by
  subst hb; exact World.ownsRow_made w #[] 0 hlo (by simp [maxLen]) rfl

theorem src_intsN {w : World} {x : Value} {ys : List Int} (hx : Ints w x ys) (i : TypeInfo) (hsz : i.size = 1) : Src Try.prog i.size 22 x ys.length (ys.map (Value.int .i64)) w := by
  obtain ⟨_, ⟨rfl, a, cap, rfl⟩ | ⟨b, off, cap, rfl, hcp, hlt, hc⟩⟩ := hx
  · cases a with
    | none => exact Src.ofNil w (e' := 2) Try.underlying22 cap
    | some ad => exact Src.ofSlice w (e' := 2) Try.underlying22 ad 0 cap [] (by simp) (by simp) (by simp)
  · refine Src.ofSlice w (e' := 2) Try.underlying22 ⟨b, off, none⟩ ys.length cap (ys.map (Value.int .i64)) (by rw [hsz]; simp) (fun j u hj => ?_) (fun u hu => ?_)
    · rw [List.getElem?_map] at hj
      obtain ⟨y, hy, rfl⟩ := Option.map_eq_some_iff.1 hj
      have hjl := (List.getElem?_eq_some_iff.1 hy).1
      have := hc j hjl
      rw [nth_eq hjl, (List.getElem?_eq_some_iff.1 hy).2] at this
      rw [Addr.add_lit]
      exact this
    · obtain ⟨y, _, rfl⟩ := List.mem_map.1 hu; rfl

/-- append(v, x...) -/
theorem run_app_intsN (w : World) (lo : Nat) (v x : Value) (xs ys : List Int) (hv : IntsN lo w v xs) (hx : Ints w x ys) (hlo : lo ≤ w.heap.size) (hbig : xs.length + ys.length ≤ 1000000000000) (ty : TypeId) :
    ∃ v' w', (Builtin.append_ #[22, 22] ty #[v, x]).run Try.prog w = .ok v' w' ∧ IntsN lo w' v' (xs ++ ys) ∧ w.grownBy w' v.ownBlock := by
  obtain ⟨i, hi, hz, hsz, hby⟩ := info_intN
  have hs := src_intsN hx i hsz
  by_cases hy : ys = []
  · subst hy
    obtain ⟨a, c, rfl⟩ := hv.form
    refine ⟨_, w, run_append_nothing w _ _ ty _ i Try.underlying22 hi a xs.length c hv.cap _ hs, ?_, ⟨rfl, rfl, rfl, Nat.le_refl _, fun _ _ _ => rfl⟩⟩
    rw [List.append_nil]; exact hv
  · obtain ⟨b, off, cap, rfl, hcp, hlt, hc⟩ := hx.at (k := 0) (by cases ys with | nil => exact absurd rfl hy | cons _ _ => simp)
    obtain ⟨v', w', hrun, hown2, hg2, _⟩ := run_append_own w lo 22 ty 2 i (.int .i64 0) 1 8 Try.underlying22 hi hz hsz hby rfl (by decide) v xs.length _ hv ⟨b, off, none⟩ ys.length cap
      (ys.map (Value.int .i64)) (by simp) (by
        intro j u hj
        rw [List.getElem?_map] at hj
        obtain ⟨y, hy, rfl⟩ := Option.map_eq_some_iff.1 hj
        have hjl := (List.getElem?_eq_some_iff.1 hy).1
        have := hc j hjl
        rw [nth_eq hjl, (List.getElem?_eq_some_iff.1 hy).2] at this
        rw [Addr.add_lit]
        exact this) (by
        intro u hu
        obtain ⟨k, _, rfl⟩ := List.mem_map.1 hu
        rfl) (by simp only [maxLen]; omega) (by omega) hlo
    refine ⟨v', w', hrun, ?_, hg2⟩
    rw [← List.map_append, ← List.length_append] at hown2
    exact hown2
/-- append(v, y) -/
theorem run_app_intN (w : World) (lo : Nat) (v : Value) (xs : List Int) (b c : Nat) (y : Int) (hv : IntsN lo w v xs) (hb : w.cell? ⟨b, 0, none⟩ = some (.int .i64 y)) (hc : 1 ≤ c) (hlo : lo ≤ w.heap.size) (hbig : xs.length + 1 ≤ 1000000000000) (ty : TypeId) :
    ∃ v' w', (Builtin.append_ #[22, 22] ty #[v, .slice (some ⟨b, 0, none⟩) 1 c]).run Try.prog w = .ok v' w' ∧ IntsN lo w' v' (xs ++ [y]) ∧ w.grownBy w' v.ownBlock := by
  refine run_app_intsN w lo v _ xs [y] hv ⟨by simp, .inr ⟨b, 0, c, rfl, hc, World.block_lt_of_cell? w ⟨b, 0, none⟩ hb, fun k hk => ?_⟩⟩ hlo hbig ty
  obtain rfl : k = 0 := by simpa using hk
  exact hb

/-- append(v, y) at a world behind W, of which v is made anew -/
theorem app_int_stepN {W wr : World} (hB : Below W.heap.size W wr) {v : Value} {xs : List Int} (hA : IntsN W.heap.size wr v xs) (y : Int) (hbig : xs.length + 1 ≤ 1000000000000) (ty : TypeId) :
    ∃ v', ∃ q : Later W, (Builtin.append_ #[22, 22] ty #[v, .slice (some ⟨wr.heap.size, 0, none⟩) 1 1]).run Try.prog (wr.alloc (.cells #[.int .i64 y] 2)) = .ok v' q.w ∧ IntsN W.heap.size q.w v' (xs ++ [y]) ∧ wr.grownBy q.w v.ownBlock := by
  have hA' := hA.later (Later.new wr (.cells #[.int .i64 y] 2))
  rw [Later.new_w] at hA'
  obtain ⟨v', w', h1, h2, h3⟩ := run_app_intN (wr.alloc (.cells #[.int .i64 y] 2)) W.heap.size v xs wr.heap.size 1 y hA' (by simp [go_sem]) (Nat.le_refl _) (by have := hB.size; simp; omega) hbig ty
  have hb := hA'.below h3 (by have := hB.size; simp; omega)
  exact ⟨v', ⟨w', ((hB.alloc hB.size _).trans hb)⟩, h1, h2, ⟨h3.os, h3.tape, h3.output, Nat.le_trans (by simp) h3.size, fun k hk hne => (h3.block k (by simp; omega) hne).trans (Below.heap_alloc _ _ k hk)⟩⟩
/-- append(v, x...) -/
theorem app_ints_stepN {W wr : World} (hB : Below W.heap.size W wr) {v x : Value} {xs ys : List Int} (hA : IntsN W.heap.size wr v xs) (hx : Ints wr x ys) (hbig : xs.length + ys.length ≤ 1000000000000) (ty : TypeId) :
    ∃ v', ∃ q : Later W, (Builtin.append_ #[22, 22] ty #[v, x]).run Try.prog wr = .ok v' q.w ∧ IntsN W.heap.size q.w v' (xs ++ ys) ∧ wr.grownBy q.w v.ownBlock := by
  obtain ⟨v', w', h1, h2, h3⟩ := run_app_intsN wr W.heap.size v x xs ys hA hx hB.size hbig ty
  exact ⟨v', ⟨w', hB.trans (hA.below h3 hB.size)⟩, h1, h2, h3⟩
/-- append([]int{}, x...) changes nothing that was there -/
theorem app_emptyN {u : World} {lo E : Nat} (hE : IntsN lo u (.slice (some ⟨E, 0, none⟩) 0 0) []) {x : Value} {ys : List Int} (hx : Ints u x ys) (hlo : lo ≤ u.heap.size) (hbig : ys.length ≤ 1000000000000) (ty : TypeId) :
    ∃ a n c, ∃ q : Later u, (Builtin.append_ #[22, 22] ty #[.slice (some ⟨E, 0, none⟩) 0 0, x]).run Try.prog u = .ok (.slice a n c) q.w ∧ IntsN lo q.w (.slice a n c) ys := by
  obtain ⟨v', w', h1, h2, h3⟩ := run_app_intsN u lo _ x [] ys hE hx hlo (by simpa using hbig) ty
  rw [List.nil_append] at h2
  obtain ⟨a, n, c, rfl⟩ := h2.form'
  obtain ⟨i, hi, hz, hsz, hby⟩ := info_intN
  by_cases hy : ys = []
  · have hs := src_intsN hx i hsz
    have h4 := run_append_nothing u _ _ ty _ i Try.underlying22 hi (some ⟨E, 0, none⟩) 0 0 (Nat.le_refl _) x (hy ▸ hs)
    obtain ⟨_, rfl⟩ := ok_inj (h4.symm.trans h1)
    exact ⟨a, n, c, Later.self _, h1, h2⟩
  · obtain ⟨b, off, cap, rfl, hcp, hlt, hc⟩ := hx.at (k := 0) (by cases ys with | nil => exact absurd rfl hy | cons _ _ => simp)
    have hl : 0 < ys.length := by cases ys with | nil => exact absurd rfl hy | cons _ _ => simp
    have h4 := run_append_grow (P := Try.prog) u 22 ty 2 i (.int .i64 0) Try.underlying22 hi hz ⟨E, 0, none⟩ 0 0 [] (by simp) (by simp) ⟨b, off, none⟩ ys.length cap
      (ys.map (Value.int .i64)) (by rw [hsz]; simp) (by
        intro j v hj
        rw [List.getElem?_map] at hj
        obtain ⟨y, hy, rfl⟩ := Option.map_eq_some_iff.1 hj
        have hjl := (List.getElem?_eq_some_iff.1 hy).1
        have := hc j hjl
        rw [nth_eq hjl, (List.getElem?_eq_some_iff.1 hy).2] at this
        rw [Addr.add_lit]
        exact this) (by omega) (by omega) (growslice_fits (by omega) (by rw [hby]; omega))
    obtain ⟨_, e⟩ := ok_inj (h4.symm.trans h1)
    subst e
    exact ⟨a, n, c, (Later.draw u).step (Later.new _ _), h1, h2⟩
theorem IntsN.of_block {w : World} {lo E : Nat} (hlo : lo ≤ E) (h : w.heap[E]? = some (.cells #[] 2)) : IntsN lo w (.slice (some ⟨E, 0, none⟩) 0 0) [] :=
  ⟨rfl, .inr ⟨E, 0, #[], rfl, hlo, h, Nat.le_refl _, by simp [maxLen], rfl, rfl⟩⟩
/-- a store into a list of one's own -/
theorem IntsN.set {w : World} {lo n c : Nat} {a : Option Addr} {xs : List Int} (h : IntsN lo w (.slice a n c) xs) {k : Nat} (hk : k < xs.length) (y : Int) :
    ∃ g, a = some ⟨g, 0, none⟩ ∧ n = xs.length ∧ lo ≤ g ∧ g < w.heap.size ∧ n ≤ c ∧ w.frozen? ⟨g, k, none⟩ = false ∧ w.cell? ⟨g, k, none⟩ = some (.int .i64 (nth xs k)) ∧ IntsN lo (w.setCell ⟨g, k, none⟩ (.int .i64 y)) (.slice a n c) (xs.set k y) ∧ w.grownBy (w.setCell ⟨g, k, none⟩ (.int .i64 y)) (some g) := by
  have hown := h
  rcases h.2 with ⟨e, h0⟩ | ⟨g, cap, cur, e, hb, hg, hnc, hcm, hcs, htk⟩
  · omega
  · cases e
    obtain ⟨hst, hgr⟩ := World.ownsRow.stored (show w.ownsRow lo 2 1 _ _ _ from hown) k (.int .i64 y)
    refine ⟨g, rfl, rfl, hb, (Array.getElem?_eq_some_iff.1 hg).1, hnc, World.ownsRow.frozenAt (show w.ownsRow lo 2 1 _ _ _ from hown) k, ?_, ?_, hgr⟩
    · rw [World.ownsRow.cellAt (show w.ownsRow lo 2 1 _ _ _ from hown) k (by omega), nth_eq hk]
      simp [hk]
    · show World.ownsRow _ _ _ _ _ _ _
      rw [List.length_set, List.map_set]
      exact hst


theorem info_intM : ∃ i : TypeInfo, Try.prog.info? 3 = some i ∧ i.zero = some (.int .i64 0) ∧ i.size = 1 ∧ i.bytes = 8 := by
  have h : (Try.prog.info? 3).map (fun i => (i.zero, i.size, i.bytes)) = some (some (.int .i64 0), 1, 8) := by kernel_rfl
  obtain ⟨i, hi, hz⟩ := Option.map_eq_some_iff.1 h
  simp only [Prod.mk.injEq] at hz
  exact ⟨i, hi, hz.1, hz.2.1, hz.2.2⟩
/-- a slice of one's own that reads as a list -/
def IntsM (lo : Nat) (w : World) (v : Value) (xs : List Int) : Prop := w.ownsRow lo 3 1 v xs.length (xs.map (Value.int .i64))
theorem IntsM.nil (lo : Nat) (w : World) : IntsM lo w (.slice none 0 0) [] := World.ownsRow_nil _ _ _ _
theorem IntsM.form {lo : Nat} {w : World} {v : Value} {xs : List Int} (h : IntsM lo w v xs) : ∃ a c, v = .slice a xs.length c := by
  obtain ⟨_, ⟨rfl, h0⟩ | ⟨g, cap, cur, rfl, _⟩⟩ := h
  · rw [h0]; exact ⟨_, _, rfl⟩
  · exact ⟨_, _, rfl⟩
theorem IntsM.form' {lo : Nat} {w : World} {v : Value} {xs : List Int} (h : IntsM lo w v xs) : ∃ a n c, v = .slice a n c := by
  obtain ⟨a, c, e⟩ := h.form; exact ⟨a, _, c, e⟩
theorem IntsM.cap {lo : Nat} {w : World} {a : Option Addr} {n c : Nat} {xs : List Int} (h : IntsM lo w (.slice a n c) xs) : xs.length ≤ c := by
  obtain ⟨_, ⟨e, h0⟩ | ⟨g, cap, cur, e, _, _, hn, _⟩⟩ := h
  · rw [h0]; exact Nat.zero_le _
  · cases e; exact hn
theorem IntsM.ints {lo : Nat} {w : World} {v : Value} {xs : List Int} (h : IntsM lo w v xs) (hl : xs.length ≤ 9007199254740992) : Ints w v xs := by
  obtain ⟨h1, ⟨rfl, h0⟩ | ⟨g, cap, cur, rfl, _, hg, hnc, hcm, hcs, htk⟩⟩ := h
  · have : xs = [] := List.eq_nil_of_length_eq_zero h0
    subst this
    exact Ints.nil none 0
  · refine ⟨hl, .inr ⟨g, 0, cap, rfl, hnc, (Array.getElem?_eq_some_iff.1 hg).1, fun k hk => ?_⟩⟩
    have e : (cur.toList.take (xs.length * 1))[k]? = some (Value.int .i64 (nth xs k)) := by
      rw [htk, nth_eq hk]; simp [hk]
    rw [List.getElem?_take, if_pos (by omega)] at e
    simp only [World.cell?, hg, Nat.zero_add]
    simpa using e
theorem IntsM.kept {lo : Nat} {w w' : World} {v : Value} {xs : List Int} (h : IntsM lo w v xs) {r : Option Nat} (hg : w.grownBy w' r) (hne : v.ownBlock = none ∨ v.ownBlock ≠ r) : IntsM lo w' v xs := World.ownsRow.kept h hg hne
theorem IntsM.later {lo : Nat} {w : World} {v : Value} {xs : List Int} (h : IntsM lo w v xs) (x : Later w) : IntsM lo x.w v xs :=
  h.kept (r := none) ⟨x.le.os, x.le.tape, x.le.output, x.size, fun k hk _ => x.le.block k hk⟩ (by cases hv : v.ownBlock <;> simp)
theorem IntsM.mono {lo lo' : Nat} {w : World} {v : Value} {xs : List Int} (h : IntsM lo w v xs) (hl : lo' ≤ lo) : IntsM lo' w v xs := by
  obtain ⟨h1, h2⟩ := h
  refine ⟨h1, h2.imp id ?_⟩
  rintro ⟨g, cap, cur, hv, hg, r⟩
  exact ⟨g, cap, cur, hv, by omega, r⟩
theorem IntsM.below {lo : Nat} {w w' : World} {v : Value} {xs : List Int} (h : IntsM lo w v xs) (hg : w.grownBy w' v.ownBlock) (hlo : lo ≤ w.heap.size) : Below lo w w' :=
  (Below.refl lo w).grown hg hlo fun k hk => (World.ownsRow.lt h k hk).1
/-- []int{} -/
theorem IntsM.empty (w : World) {lo b : Nat} (hb : b = w.heap.size) (hlo : lo ≤ w.heap.size) : IntsM lo (w.alloc (.cells #[] 3)) (.slice (some ⟨b, 0, none⟩) 0 0) [] := by
  subst hb; exact World.ownsRow_made w #[] 0 hlo (by simp [maxLen]) rfl

theorem src_intsM {w : World} {x : Value} {ys : List Int} (hx : Ints w x ys) (i : TypeInfo) (hsz : i.size = 1) : Src Try.prog i.size 38 x ys.length (ys.map (Value.int .i64)) w := by
  obtain ⟨_, ⟨rfl, a, cap, rfl⟩ | ⟨b, off, cap, rfl, hcp, hlt, hc⟩⟩ := hx
  · cases a with
    | none => exact Src.ofNil w (e' := 3) Try.underlying38 cap
    | some ad => exact Src.ofSlice w (e' := 3) Try.underlying38 ad 0 cap [] (by simp) (by simp) (by simp)
  · refine Src.ofSlice w (e' := 3) Try.underlying38 ⟨b, off, none⟩ ys.length cap (ys.map (Value.int .i64)) (by rw [hsz]; simp) (fun j u hj => ?_) (fun u hu => ?_)
    · rw [List.getElem?_map] at hj
      obtain ⟨y, hy, rfl⟩ := Option.map_eq_some_iff.1 hj
      have hjl := (List.getElem?_eq_some_iff.1 hy).1
      have := hc j hjl
      rw [nth_eq hjl, (List.getElem?_eq_some_iff.1 hy).2] at this
      rw [Addr.add_lit]
      exact this
    · obtain ⟨y, _, rfl⟩ := List.mem_map.1 hu; rfl

/-- append(v, x...) -/
theorem run_app_intsM (w : World) (lo : Nat) (v x : Value) (xs ys : List Int) (hv : IntsM lo w v xs) (hx : Ints w x ys) (hlo : lo ≤ w.heap.size) (hbig : xs.length + ys.length ≤ 1000000000000) (ty : TypeId) :
    ∃ v' w', (Builtin.append_ #[38, 38] ty #[v, x]).run Try.prog w = .ok v' w' ∧ IntsM lo w' v' (xs ++ ys) ∧ w.grownBy w' v.ownBlock := by
  obtain ⟨i, hi, hz, hsz, hby⟩ := info_intM
  have hs := src_intsM hx i hsz
  by_cases hy : ys = []
  · subst hy
    obtain ⟨a, c, rfl⟩ := hv.form
    refine ⟨_, w, run_append_nothing w _ _ ty _ i Try.underlying38 hi a xs.length c hv.cap _ hs, ?_, ⟨rfl, rfl, rfl, Nat.le_refl _, fun _ _ _ => rfl⟩⟩
    rw [List.append_nil]; exact hv
  · obtain ⟨b, off, cap, rfl, hcp, hlt, hc⟩ := hx.at (k := 0) (by cases ys with | nil => exact absurd rfl hy | cons _ _ => simp)
    obtain ⟨v', w', hrun, hown2, hg2, _⟩ := run_append_own w lo 38 ty 3 i (.int .i64 0) 1 8 Try.underlying38 hi hz hsz hby rfl (by decide) v xs.length _ hv ⟨b, off, none⟩ ys.length cap
      (ys.map (Value.int .i64)) (by simp) (by
        intro j u hj
        rw [List.getElem?_map] at hj
        obtain ⟨y, hy, rfl⟩ := Option.map_eq_some_iff.1 hj
        have hjl := (List.getElem?_eq_some_iff.1 hy).1
        have := hc j hjl
        rw [nth_eq hjl, (List.getElem?_eq_some_iff.1 hy).2] at this
        rw [Addr.add_lit]
        exact this) (by
        intro u hu
        obtain ⟨k, _, rfl⟩ := List.mem_map.1 hu
        rfl) (by simp only [maxLen]; omega) (by omega) hlo
    refine ⟨v', w', hrun, ?_, hg2⟩
    rw [← List.map_append, ← List.length_append] at hown2
    exact hown2
/-- append(v, y) -/
theorem run_app_intM (w : World) (lo : Nat) (v : Value) (xs : List Int) (b c : Nat) (y : Int) (hv : IntsM lo w v xs) (hb : w.cell? ⟨b, 0, none⟩ = some (.int .i64 y)) (hc : 1 ≤ c) (hlo : lo ≤ w.heap.size) (hbig : xs.length + 1 ≤ 1000000000000) (ty : TypeId) :
    ∃ v' w', (Builtin.append_ #[38, 38] ty #[v, .slice (some ⟨b, 0, none⟩) 1 c]).run Try.prog w = .ok v' w' ∧ IntsM lo w' v' (xs ++ [y]) ∧ w.grownBy w' v.ownBlock := by
  refine run_app_intsM w lo v _ xs [y] hv ⟨by simp, .inr ⟨b, 0, c, rfl, hc, World.block_lt_of_cell? w ⟨b, 0, none⟩ hb, fun k hk => ?_⟩⟩ hlo hbig ty
  obtain rfl : k = 0 := by simpa using hk
  exact hb

/-- append(v, y) at a world behind W, of which v is made anew -/
theorem app_int_stepM {W wr : World} (hB : Below W.heap.size W wr) {v : Value} {xs : List Int} (hA : IntsM W.heap.size wr v xs) (y : Int) (hbig : xs.length + 1 ≤ 1000000000000) (ty : TypeId) :
    ∃ v', ∃ q : Later W, (Builtin.append_ #[38, 38] ty #[v, .slice (some ⟨wr.heap.size, 0, none⟩) 1 1]).run Try.prog (wr.alloc (.cells #[.int .i64 y] 3)) = .ok v' q.w ∧ IntsM W.heap.size q.w v' (xs ++ [y]) ∧ wr.grownBy q.w v.ownBlock := by
  have hA' := hA.later (Later.new wr (.cells #[.int .i64 y] 3))
  rw [Later.new_w] at hA'
  obtain ⟨v', w', h1, h2, h3⟩ := run_app_intM (wr.alloc (.cells #[.int .i64 y] 3)) W.heap.size v xs wr.heap.size 1 y hA' (by simp [go_sem]) (Nat.le_refl _) (by have := hB.size; simp; omega) hbig ty
  have hb := hA'.below h3 (by have := hB.size; simp; omega)
  exact ⟨v', ⟨w', ((hB.alloc hB.size _).trans hb)⟩, h1, h2, ⟨h3.os, h3.tape, h3.output, Nat.le_trans (by simp) h3.size, fun k hk hne => (h3.block k (by simp; omega) hne).trans (Below.heap_alloc _ _ k hk)⟩⟩
/-- append(v, x...) -/
theorem app_ints_stepM {W wr : World} (hB : Below W.heap.size W wr) {v x : Value} {xs ys : List Int} (hA : IntsM W.heap.size wr v xs) (hx : Ints wr x ys) (hbig : xs.length + ys.length ≤ 1000000000000) (ty : TypeId) :
    ∃ v', ∃ q : Later W, (Builtin.append_ #[38, 38] ty #[v, x]).run Try.prog wr = .ok v' q.w ∧ IntsM W.heap.size q.w v' (xs ++ ys) ∧ wr.grownBy q.w v.ownBlock := by
  obtain ⟨v', w', h1, h2, h3⟩ := run_app_intsM wr W.heap.size v x xs ys hA hx hB.size hbig ty
  exact ⟨v', ⟨w', hB.trans (hA.below h3 hB.size)⟩, h1, h2, h3⟩
/-- append([]int{}, x...) changes nothing that was there -/
theorem app_emptyM {u : World} {lo E : Nat} (hE : IntsM lo u (.slice (some ⟨E, 0, none⟩) 0 0) []) {x : Value} {ys : List Int} (hx : Ints u x ys) (hlo : lo ≤ u.heap.size) (hbig : ys.length ≤ 1000000000000) (ty : TypeId) :
    ∃ a n c, ∃ q : Later u, (Builtin.append_ #[38, 38] ty #[.slice (some ⟨E, 0, none⟩) 0 0, x]).run Try.prog u = .ok (.slice a n c) q.w ∧ IntsM lo q.w (.slice a n c) ys := by
  obtain ⟨v', w', h1, h2, h3⟩ := run_app_intsM u lo _ x [] ys hE hx hlo (by simpa using hbig) ty
  rw [List.nil_append] at h2
  obtain ⟨a, n, c, rfl⟩ := h2.form'
  obtain ⟨i, hi, hz, hsz, hby⟩ := info_intM
  by_cases hy : ys = []
  · have hs := src_intsM hx i hsz
    have h4 := run_append_nothing u _ _ ty _ i Try.underlying38 hi (some ⟨E, 0, none⟩) 0 0 (Nat.le_refl _) x (hy ▸ hs)
    obtain ⟨_, rfl⟩ := ok_inj (h4.symm.trans h1)
    exact ⟨a, n, c, Later.self _, h1, h2⟩
  · obtain ⟨b, off, cap, rfl, hcp, hlt, hc⟩ := hx.at (k := 0) (by cases ys with | nil => exact absurd rfl hy | cons _ _ => simp)
    have hl : 0 < ys.length := by cases ys with | nil => exact absurd rfl hy | cons _ _ => simp
    have h4 := run_append_grow (P := Try.prog) u 38 ty 3 i (.int .i64 0) Try.underlying38 hi hz ⟨E, 0, none⟩ 0 0 [] (by simp) (by simp) ⟨b, off, none⟩ ys.length cap
      (ys.map (Value.int .i64)) (by rw [hsz]; simp) (by
        intro j v hj
        rw [List.getElem?_map] at hj
        obtain ⟨y, hy, rfl⟩ := Option.map_eq_some_iff.1 hj
        have hjl := (List.getElem?_eq_some_iff.1 hy).1
        have := hc j hjl
        rw [nth_eq hjl, (List.getElem?_eq_some_iff.1 hy).2] at this
        rw [Addr.add_lit]
        exact this) (by omega) (by omega) (growslice_fits (by omega) (by rw [hby]; omega))
    obtain ⟨_, e⟩ := ok_inj (h4.symm.trans h1)
    subst e
    exact ⟨a, n, c, (Later.draw u).step (Later.new _ _), h1, h2⟩
theorem IntsM.of_block {w : World} {lo E : Nat} (hlo : lo ≤ E) (h : w.heap[E]? = some (.cells #[] 3)) : IntsM lo w (.slice (some ⟨E, 0, none⟩) 0 0) [] :=
  ⟨rfl, .inr ⟨E, 0, #[], rfl, hlo, h, Nat.le_refl _, by simp [maxLen], rfl, rfl⟩⟩
/-- a store into a list of one's own -/
theorem IntsM.set {w : World} {lo n c : Nat} {a : Option Addr} {xs : List Int} (h : IntsM lo w (.slice a n c) xs) {k : Nat} (hk : k < xs.length) (y : Int) :
    ∃ g, a = some ⟨g, 0, none⟩ ∧ n = xs.length ∧ lo ≤ g ∧ g < w.heap.size ∧ n ≤ c ∧ w.frozen? ⟨g, k, none⟩ = false ∧ w.cell? ⟨g, k, none⟩ = some (.int .i64 (nth xs k)) ∧ IntsM lo (w.setCell ⟨g, k, none⟩ (.int .i64 y)) (.slice a n c) (xs.set k y) ∧ w.grownBy (w.setCell ⟨g, k, none⟩ (.int .i64 y)) (some g) := by
  have hown := h
  rcases h.2 with ⟨e, h0⟩ | ⟨g, cap, cur, e, hb, hg, hnc, hcm, hcs, htk⟩
  · omega
  · cases e
    obtain ⟨hst, hgr⟩ := World.ownsRow.stored (show w.ownsRow lo 3 1 _ _ _ from hown) k (.int .i64 y)
    refine ⟨g, rfl, rfl, hb, (Array.getElem?_eq_some_iff.1 hg).1, hnc, World.ownsRow.frozenAt (show w.ownsRow lo 3 1 _ _ _ from hown) k, ?_, ?_, hgr⟩
    · rw [World.ownsRow.cellAt (show w.ownsRow lo 3 1 _ _ _ from hown) k (by omega), nth_eq hk]
      simp [hk]
    · show World.ownsRow _ _ _ _ _ _ _
      rw [List.length_set, List.map_set]
      exact hst

end Go.Proofs.Ytbjmfhlkmklmmaa

namespace Go.Proofs.Ytbjmfhlkmklmmaa
open Go.RowKit
/-- the first place, from k on, at which p holds -/
def idxF (p : Int → Bool) : List Int → Nat → Int
  | [], _ => -1
  | x :: xs, k => if p x then (k : Int) else idxF p xs (k + 1)
theorem idxF_at (p : Int → Bool) (xs : List Int) (k : Nat) (h : k < xs.length) :
    idxF p (xs.drop k) k = if p (nth xs k) then (k : Int) else idxF p (xs.drop (k + 1)) (k + 1) := by
  rw [List.drop_eq_getElem_cons h, idxF, nth_eq h]
theorem idxF_end (p : Int → Bool) (xs : List Int) (k : Nat) (h : xs.length ≤ k) : idxF p (xs.drop k) k = -1 := by
  rw [List.drop_eq_nil_of_le h, idxF]
theorem idxF_lo (p : Int → Bool) : ∀ (xs : List Int) (k : Nat), (0 ≤ idxF p xs k ↔ xs.any p = true)
  | [], _ => by simp [idxF]
  | x :: xs, k => by
    simp only [idxF, List.any_cons, Bool.or_eq_true]
    by_cases h : p x = true
    · simp [h]
    · simp only [h, Bool.false_eq_true, if_false, false_or]
      exact idxF_lo p xs (k + 1)
theorem idxF_any (p : Int → Bool) (xs : List Int) : decide (0 ≤ idxF p xs 0) = xs.any p := by
  rw [Bool.eq_iff_iff, decide_eq_true_iff]; exact idxF_lo p xs 0
def outB (lo hi : Int) : Int → Bool := fun n => decide (n < lo) || decide (hi < n)
set_option maxHeartbeats 400000 in
theorem within1_calls (n lo hi : Int) (b1 b2 : Nat) (w : World) (h1 : w.cell? ⟨b1, 0, none⟩ = some (.int .i64 lo)) (h2 : w.cell? ⟨b2, 0, none⟩ = some (.int .i64 hi)) :
    Calls Try.prog 70 #[.int .i64 n, .pointer (some ⟨b1, 0, none⟩), .pointer (some ⟨b2, 0, none⟩)] w fun e w' => e = .returned (.bool (outB lo hi n)) ∧ w' = w := by
  go_enter Try.func70, Try.ntmps70
  go_wp2
  all_goals (go_ret; refine ⟨ret_bool ?_, rfl⟩; simp [outB, *])
  all_goals omega

set_option maxHeartbeats 400000 in
theorem IndexFunc_within (v : Value) (xs : List Int) (lo hi : Int) (b1 b2 : Nat) (w : World) (hx : Ints w v xs) (hb1 : b1 < w.heap.size) (hb2 : b2 < w.heap.size) (h1 : w.cell? ⟨b1, 0, none⟩ = some (.int .i64 lo)) (h2 : w.cell? ⟨b2, 0, none⟩ = some (.int .i64 hi)) :
    Calls Try.prog 75 #[v, .func (.func 70) #[] #[.pointer (some ⟨b1, 0, none⟩), .pointer (some ⟨b2, 0, none⟩)]] w (Gives (.int .i64 (idxF (outB lo hi) xs 0)) w) := by
  obtain ⟨hl, ⟨rfl, a, cap, rfl⟩ | ⟨b, off, cap, rfl, hcp, hb, hc⟩⟩ := hx
  · go_enter Try.func75, Try.ntmps75
    go_wp2
    go_loop [8] (fun i => i = .int .i64 0) (fun _ => 0)
    case atStart => rfl
    case round =>
      obtain rfl := hrel
      go_wp2
      go_ret
      exact ⟨rfl, Later.self _, rfl⟩
  · go_enter Try.func75, Try.ntmps75
    go_wp2
    go_loopw [8] (fun i wr => ∃ k : Nat, ∃ x : Later w, wr = x.w ∧ k ≤ xs.length ∧ i = .int .i64 k ∧ Hid (idxF (outB lo hi) xs 0 = idxF (outB lo hi) (xs.drop k) k)) (fun i _ => xs.length - (intOf i).toNat)
    case atStart => exact ⟨0, Later.self _, rfl, Nat.zero_le _, rfl, rfl⟩
    case round =>
      obtain ⟨k, x, rfl, hk, rfl, hp⟩ := hrel
      by_cases hlt : k < xs.length
      · have hcell := hc k hlt
        
        have hs := Lib.hid (idxF_at (outB lo hi) xs k hlt)
        clear hc
        cases he : (outB lo hi) (nth xs k)
        · go_wp2_with (go_at_call 70; refine (Later.quiet_same x (within1_calls _ lo hi b1 b2 _ ((x.cell hb1).trans h1) ((x.cell hb2).trans h2))).mono ?_; rintro e w' ⟨rfl, x, rfl⟩)
          go_roundw
          case rel => exact ⟨k + 1, _, rfl, by omega, by go_num, by unfold Hid; rw [hp.out, hs.out, if_neg (by rw [he]; simp)]⟩
          case measure => simp [intOf]; omega
        · go_wp2_with (go_at_call 70; refine (Later.quiet_same x (within1_calls _ lo hi b1 b2 _ ((x.cell hb1).trans h1) ((x.cell hb2).trans h2))).mono ?_; rintro e w' ⟨rfl, x, rfl⟩)
          go_ret
          exact ⟨ret_int (by rw [hp.out, hs.out, if_pos he]), _, rfl⟩
      · have hs := Lib.hid (idxF_end (outB lo hi) xs k (by omega))
        clear hc
        go_wp2
        go_ret
        exact ⟨ret_int (by rw [hp.out, hs.out]), x, rfl⟩


set_option maxHeartbeats 400000 in
theorem ContainsFunc_within (v : Value) (xs : List Int) (lo hi : Int) (b1 b2 : Nat) (w : World) (hx : Ints w v xs) (hb1 : b1 < w.heap.size) (hb2 : b2 < w.heap.size) (h1 : w.cell? ⟨b1, 0, none⟩ = some (.int .i64 lo)) (h2 : w.cell? ⟨b2, 0, none⟩ = some (.int .i64 hi)) :
    Calls Try.prog 69 #[v, .func (.func 70) #[] #[.pointer (some ⟨b1, 0, none⟩), .pointer (some ⟨b2, 0, none⟩)]] w (Gives (.bool (xs.any (outB lo hi))) w) := by
  have h := Lib.hid (idxF_any (outB lo hi) xs)
  go_enter Try.func69, Try.ntmps69
  go_wp2_with (go_at_call 75; (with_reducible refine (IndexFunc_within _ xs lo hi b1 b2 _ hx hb1 hb2 h1 h2).mono ?_); rintro e w' ⟨rfl, x, rfl⟩)
  go_ret
  exact ⟨ret_bool h.out, x, rfl⟩

set_option maxHeartbeats 400000 in
theorem within_calls (v : Value) (xs : List Int) (lo hi : Int) (w : World) (hx : Ints w v xs) :
    Calls Try.prog 55 #[.int .i64 lo, .int .i64 hi, v] w (Gives (.bool (!xs.any (outB lo hi))) w) := by
  go_enter Try.func55, Try.ntmps55
  go_wp2_with fail
  refine (ContainsFunc_within v xs lo hi _ _ _ ?_ ?_ ?_ ?_ ?_).mono ?_
  · exact (hx.later (Later.new _ _)).later (Later.new _ _)
  · simp; omega
  · simp
  · simp [go_sem]
  · simp [go_sem]
  rintro e w' ⟨rfl, x, rfl⟩
  go_wp2
  go_ret
  exact ⟨rfl, ((Later.new _ _).step (Later.new _ _)).step x, rfl⟩

end Go.Proofs.Ytbjmfhlkmklmmaa
