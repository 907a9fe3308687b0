import Derived.Deep.AppendSrc
import Derived.Deep.Upon
import Derived.Maps.AppendAt
import Derived.Laws.CopyRow
import Derived.Lib.SlFresh
import Derived.Laws.OwnMore
import Derived.Test.YtdhdpbnlhnodjaaKBase
import Derived.Test.YtdhdpbnlhnodjaaKMix
import Derived.Deep.WholeRow
import Derived.Deep.MidRow
import Derived.Deep.OwnRows
import Derived.Laws.Rows
import Derived.RangeFuncRecord
/-  Lists of numbers that a call makes by 'append': plain law over the program's table of types, for []int (..M). -/
namespace Go.Proofs.Ytdhdpbnlhnodjaa
open Go.RowKit
theorem ok_inj {α : Type} {a b : α} {w w' : World} (h : (Result.ok a w : Result α) = .ok b w') : a = b ∧ w = w' := by cases h; exact ⟨rfl, rfl⟩

theorem info_intM : ∃ i : TypeInfo, Try.prog.info? 3 = some i ∧ i.zero = some (.int .i64 0) ∧ i.size = 1 ∧ i.bytes = 8 := by
  have h : (Try.prog.info? 3).map (fun i => (i.zero, i.size, i.bytes)) = some (some (.int .i64 0), 1, 8) := by kernel_rfl
  obtain ⟨i, hi, hz⟩ := Option.map_eq_some_iff.1 h
  simp only [Prod.mk.injEq] at hz
  exact ⟨i, hi, hz.1, hz.2.1, hz.2.2⟩
/-- a slice of one's own that reads as a list -/
def IntsM (lo : Nat) (w : World) (v : Value) (xs : List Int) : Prop := w.ownsRow lo 3 1 v xs.length (xs.map (Value.int .i64))
theorem IntsM.nil (lo : Nat) (w : World) : IntsM lo w (.slice none 0 0) [] := World.ownsRow_nil _ _ _ _
theorem IntsM.form {lo : Nat} {w : World} {v : Value} {xs : List Int} (h : IntsM lo w v xs) : ∃ a c, v = .slice a xs.length c := by
  obtain ⟨_, ⟨rfl, h0⟩ | ⟨g, cap, cur, rfl, _⟩⟩ := h
  · rw [h0]; exact ⟨_, _, rfl⟩
  · exact ⟨_, _, rfl⟩
theorem IntsM.form' {lo : Nat} {w : World} {v : Value} {xs : List Int} (h : IntsM lo w v xs) : ∃ a n c, v = .slice a n c := by
  obtain ⟨a, c, e⟩ := h.form; exact ⟨a, _, c, e⟩
theorem IntsM.cap {lo : Nat} {w : World} {a : Option Addr} {n c : Nat} {xs : List Int} (h : IntsM lo w (.slice a n c) xs) : xs.length ≤ c := by
  obtain ⟨_, ⟨e, h0⟩ | ⟨g, cap, cur, e, _, _, hn, _⟩⟩ := h
  · rw [h0]; exact Nat.zero_le _
  · cases e; exact hn
theorem IntsM.ints {lo : Nat} {w : World} {v : Value} {xs : List Int} (h : IntsM lo w v xs) (hl : xs.length ≤ 9007199254740992) : Ints w v xs := by
  obtain ⟨h1, ⟨rfl, h0⟩ | ⟨g, cap, cur, rfl, _, hg, hnc, hcm, hcs, htk⟩⟩ := h
  · have : xs = [] := List.eq_nil_of_length_eq_zero h0
    subst this
    exact Ints.nil none 0
  · refine ⟨hl, .inr ⟨g, 0, cap, rfl, hnc, (Array.getElem?_eq_some_iff.1 hg).1, fun k hk => ?_⟩⟩
    have e : (cur.toList.take (xs.length * 1))[k]? = some (Value.int .i64 (nth xs k)) := by
      rw [htk, nth_eq hk]; simp [hk]
    rw [List.getElem?_take, if_pos (by omega)] at e
    simp only [World.cell?, hg, Nat.zero_add]
    simpa using e
theorem IntsM.kept {lo : Nat} {w w' : World} {v : Value} {xs : List Int} (h : IntsM lo w v xs) {r : Option Nat} (hg : w.grownBy w' r) (hne : v.ownBlock = none ∨ v.ownBlock ≠ r) : IntsM lo w' v xs := World.ownsRow.kept h hg hne
theorem IntsM.later {lo : Nat} {w : World} {v : Value} {xs : List Int} (h : IntsM lo w v xs) (x : Later w) : IntsM lo x.w v xs :=
  h.kept (r := none) ⟨x.le.os, x.le.tape, x.le.output, x.size, fun k hk _ => x.le.block k hk⟩ (by cases hv : v.ownBlock <;> simp)
theorem IntsM.mono {lo lo' : Nat} {w : World} {v : Value} {xs : List Int} (h : IntsM lo w v xs) (hl : lo' ≤ lo) : IntsM lo' w v xs := by
  obtain ⟨h1, h2⟩ := h
  refine ⟨h1, h2.imp id ?_⟩
  rintro ⟨g, cap, cur, hv, hg, r⟩
  exact ⟨g, cap, cur, hv, by omega, r⟩
theorem IntsM.below {lo : Nat} {w w' : World} {v : Value} {xs : List Int} (h : IntsM lo w v xs) (hg : w.grownBy w' v.ownBlock) (hlo : lo ≤ w.heap.size) : Below lo w w' :=
  (Below.refl lo w).grown hg hlo fun k hk => (World.ownsRow.lt h k hk).1
/-- []int{} -/
theorem IntsM.empty (w : World) {lo b : Nat} (hb : b = w.heap.size) (hlo : lo ≤ w.heap.size) : IntsM lo (w.alloc (.cells #[] 3)) (.slice (some ⟨b, 0, none⟩) 0 0) [] := by
  subst hb; exact World.ownsRow_made w #[] 0 hlo (by simp [maxLen]) rfl

theorem src_intsM {w : World} {x : Value} {ys : List Int} (hx : Ints w x ys) (i : TypeInfo) (hsz : i.size = 1) : Src Try.prog i.size 23 x ys.length (ys.map (Value.int .i64)) w := by
  obtain ⟨_, ⟨rfl, a, cap, rfl⟩ | ⟨b, off, cap, rfl, hcp, hlt, hc⟩⟩ := hx
  · cases a with
    | none => exact Src.ofNil w (e' := 3) Try.underlying23 cap
    | some ad => exact Src.ofSlice w (e' := 3) Try.underlying23 ad 0 cap [] (by simp) (by simp) (by simp)
  · refine Src.ofSlice w (e' := 3) Try.underlying23 ⟨b, off, none⟩ ys.length cap (ys.map (Value.int .i64)) (by rw [hsz]; simp) (fun j u hj => ?_) (fun u hu => ?_)
    · rw [List.getElem?_map] at hj
      obtain ⟨y, hy, rfl⟩ := Option.map_eq_some_iff.1 hj
      have hjl := (List.getElem?_eq_some_iff.1 hy).1
      have := hc j hjl
      rw [nth_eq hjl, (List.getElem?_eq_some_iff.1 hy).2] at this
      rw [Addr.add_lit]
      exact this
    · obtain ⟨y, _, rfl⟩ := List.mem_map.1 hu; rfl

/-- append(v, x...) -/
theorem run_app_intsM (w : World) (lo : Nat) (v x : Value) (xs ys : List Int) (hv : IntsM lo w v xs) (hx : Ints w x ys) (hlo : lo ≤ w.heap.size) (hbig : xs.length + ys.length ≤ 1000000000000) (ty : TypeId) :
    ∃ v' w', (Builtin.append_ #[23, 23] ty #[v, x]).run Try.prog w = .ok v' w' ∧ IntsM lo w' v' (xs ++ ys) ∧ w.grownBy w' v.ownBlock := by
  obtain ⟨i, hi, hz, hsz, hby⟩ := info_intM
  have hs := src_intsM hx i hsz
  by_cases hy : ys = []
  · subst hy
    obtain ⟨a, c, rfl⟩ := hv.form
    refine ⟨_, w, run_append_nothing w _ _ ty _ i Try.underlying23 hi a xs.length c hv.cap _ hs, ?_, ⟨rfl, rfl, rfl, Nat.le_refl _, fun _ _ _ => rfl⟩⟩
    rw [List.append_nil]; exact hv
  · obtain ⟨b, off, cap, rfl, hcp, hlt, hc⟩ := hx.at (k := 0) (by cases ys with | nil => exact absurd rfl hy | cons _ _ => simp)
    obtain ⟨v', w', hrun, hown2, hg2, _⟩ := run_append_own w lo 23 ty 3 i (.int .i64 0) 1 8 Try.underlying23 hi hz hsz hby rfl (by decide) v xs.length _ hv ⟨b, off, none⟩ ys.length cap
      (ys.map (Value.int .i64)) (by simp) (by
        intro j u hj
        rw [List.getElem?_map] at hj
        obtain ⟨y, hy, rfl⟩ := Option.map_eq_some_iff.1 hj
        have hjl := (List.getElem?_eq_some_iff.1 hy).1
        have := hc j hjl
        rw [nth_eq hjl, (List.getElem?_eq_some_iff.1 hy).2] at this
        rw [Addr.add_lit]
        exact this) (by
        intro u hu
        obtain ⟨k, _, rfl⟩ := List.mem_map.1 hu
        rfl) (by simp only [maxLen]; omega) (by omega) hlo
    refine ⟨v', w', hrun, ?_, hg2⟩
    rw [← List.map_append, ← List.length_append] at hown2
    exact hown2
/-- append(v, y) -/
theorem run_app_intM (w : World) (lo : Nat) (v : Value) (xs : List Int) (b c : Nat) (y : Int) (hv : IntsM lo w v xs) (hb : w.cell? ⟨b, 0, none⟩ = some (.int .i64 y)) (hc : 1 ≤ c) (hlo : lo ≤ w.heap.size) (hbig : xs.length + 1 ≤ 1000000000000) (ty : TypeId) :
    ∃ v' w', (Builtin.append_ #[23, 23] ty #[v, .slice (some ⟨b, 0, none⟩) 1 c]).run Try.prog w = .ok v' w' ∧ IntsM lo w' v' (xs ++ [y]) ∧ w.grownBy w' v.ownBlock := by
  refine run_app_intsM w lo v _ xs [y] hv ⟨by simp, .inr ⟨b, 0, c, rfl, hc, World.block_lt_of_cell? w ⟨b, 0, none⟩ hb, fun k hk => ?_⟩⟩ hlo hbig ty
  obtain rfl : k = 0 := by simpa using hk
  exact hb

/-- append(v, y) at a world behind W, of which v is made anew -/
theorem app_int_stepM {W wr : World} (hB : Below W.heap.size W wr) {v : Value} {xs : List Int} (hA : IntsM W.heap.size wr v xs) (y : Int) (hbig : xs.length + 1 ≤ 1000000000000) (ty : TypeId) :
    ∃ v', ∃ q : Later W, (Builtin.append_ #[23, 23] ty #[v, .slice (some ⟨wr.heap.size, 0, none⟩) 1 1]).run Try.prog (wr.alloc (.cells #[.int .i64 y] 3)) = .ok v' q.w ∧ IntsM W.heap.size q.w v' (xs ++ [y]) ∧ wr.grownBy q.w v.ownBlock := by
  have hA' := hA.later (Later.new wr (.cells #[.int .i64 y] 3))
  rw [Later.new_w] at hA'
  obtain ⟨v', w', h1, h2, h3⟩ := run_app_intM (wr.alloc (.cells #[.int .i64 y] 3)) W.heap.size v xs wr.heap.size 1 y hA' (by simp [go_sem]) (Nat.le_refl _) (by have := hB.size; simp; omega) hbig ty
  have hb := hA'.below h3 (by have := hB.size; simp; omega)
  exact ⟨v', ⟨w', ((hB.alloc hB.size _).trans hb)⟩, h1, h2, ⟨h3.os, h3.tape, h3.output, Nat.le_trans (by simp) h3.size, fun k hk hne => (h3.block k (by simp; omega) hne).trans (Below.heap_alloc _ _ k hk)⟩⟩
/-- append(v, x...) -/
theorem app_ints_stepM {W wr : World} (hB : Below W.heap.size W wr) {v x : Value} {xs ys : List Int} (hA : IntsM W.heap.size wr v xs) (hx : Ints wr x ys) (hbig : xs.length + ys.length ≤ 1000000000000) (ty : TypeId) :
    ∃ v', ∃ q : Later W, (Builtin.append_ #[23, 23] ty #[v, x]).run Try.prog wr = .ok v' q.w ∧ IntsM W.heap.size q.w v' (xs ++ ys) ∧ wr.grownBy q.w v.ownBlock := by
  obtain ⟨v', w', h1, h2, h3⟩ := run_app_intsM wr W.heap.size v x xs ys hA hx hB.size hbig ty
  exact ⟨v', ⟨w', hB.trans (hA.below h3 hB.size)⟩, h1, h2, h3⟩
/-- append([]int{}, x...) changes nothing that was there -/
theorem app_emptyM {u : World} {lo E : Nat} (hE : IntsM lo u (.slice (some ⟨E, 0, none⟩) 0 0) []) {x : Value} {ys : List Int} (hx : Ints u x ys) (hlo : lo ≤ u.heap.size) (hbig : ys.length ≤ 1000000000000) (ty : TypeId) :
    ∃ a n c, ∃ q : Later u, (Builtin.append_ #[23, 23] ty #[.slice (some ⟨E, 0, none⟩) 0 0, x]).run Try.prog u = .ok (.slice a n c) q.w ∧ IntsM lo q.w (.slice a n c) ys := by
  obtain ⟨v', w', h1, h2, h3⟩ := run_app_intsM u lo _ x [] ys hE hx hlo (by simpa using hbig) ty
  rw [List.nil_append] at h2
  obtain ⟨a, n, c, rfl⟩ := h2.form'
  obtain ⟨i, hi, hz, hsz, hby⟩ := info_intM
  by_cases hy : ys = []
  · have hs := src_intsM hx i hsz
    have h4 := run_append_nothing u _ _ ty _ i Try.underlying23 hi (some ⟨E, 0, none⟩) 0 0 (Nat.le_refl _) x (hy ▸ hs)
    obtain ⟨_, rfl⟩ := ok_inj (h4.symm.trans h1)
    exact ⟨a, n, c, Later.self _, h1, h2⟩
  · obtain ⟨b, off, cap, rfl, hcp, hlt, hc⟩ := hx.at (k := 0) (by cases ys with | nil => exact absurd rfl hy | cons _ _ => simp)
    have hl : 0 < ys.length := by cases ys with | nil => exact absurd rfl hy | cons _ _ => simp
    have h4 := run_append_grow (P := Try.prog) u 23 ty 3 i (.int .i64 0) Try.underlying23 hi hz ⟨E, 0, none⟩ 0 0 [] (by simp) (by simp) ⟨b, off, none⟩ ys.length cap
      (ys.map (Value.int .i64)) (by rw [hsz]; simp) (by
        intro j v hj
        rw [List.getElem?_map] at hj
        obtain ⟨y, hy, rfl⟩ := Option.map_eq_some_iff.1 hj
        have hjl := (List.getElem?_eq_some_iff.1 hy).1
        have := hc j hjl
        rw [nth_eq hjl, (List.getElem?_eq_some_iff.1 hy).2] at this
        rw [Addr.add_lit]
        exact this) (by omega) (by omega) (growslice_fits (by omega) (by rw [hby]; omega))
    obtain ⟨_, e⟩ := ok_inj (h4.symm.trans h1)
    subst e
    exact ⟨a, n, c, (Later.draw u).step (Later.new _ _), h1, h2⟩
theorem IntsM.of_block {w : World} {lo E : Nat} (hlo : lo ≤ E) (h : w.heap[E]? = some (.cells #[] 3)) : IntsM lo w (.slice (some ⟨E, 0, none⟩) 0 0) [] :=
  ⟨rfl, .inr ⟨E, 0, #[], rfl, hlo, h, Nat.le_refl _, by simp [maxLen], rfl, rfl⟩⟩
/-- a store into a list of one's own -/
theorem IntsM.set {w : World} {lo n c : Nat} {a : Option Addr} {xs : List Int} (h : IntsM lo w (.slice a n c) xs) {k : Nat} (hk : k < xs.length) (y : Int) :
    ∃ g, a = some ⟨g, 0, none⟩ ∧ n = xs.length ∧ lo ≤ g ∧ g < w.heap.size ∧ n ≤ c ∧ w.frozen? ⟨g, k, none⟩ = false ∧ w.cell? ⟨g, k, none⟩ = some (.int .i64 (nth xs k)) ∧ IntsM lo (w.setCell ⟨g, k, none⟩ (.int .i64 y)) (.slice a n c) (xs.set k y) ∧ w.grownBy (w.setCell ⟨g, k, none⟩ (.int .i64 y)) (some g) := by
  have hown := h
  rcases h.2 with ⟨e, h0⟩ | ⟨g, cap, cur, e, hb, hg, hnc, hcm, hcs, htk⟩
  · omega
  · cases e
    obtain ⟨hst, hgr⟩ := World.ownsRow.stored (show w.ownsRow lo 3 1 _ _ _ from hown) k (.int .i64 y)
    refine ⟨g, rfl, rfl, hb, (Array.getElem?_eq_some_iff.1 hg).1, hnc, World.ownsRow.frozenAt (show w.ownsRow lo 3 1 _ _ _ from hown) k, ?_, ?_, hgr⟩
    · rw [World.ownsRow.cellAt (show w.ownsRow lo 3 1 _ _ _ from hown) k (by omega), nth_eq hk]
      simp [hk]
    · show World.ownsRow _ _ _ _ _ _ _
      rw [List.length_set, List.map_set]
      exact hst

end Go.Proofs.Ytdhdpbnlhnodjaa


/-  Arrays of numbers: [2]int and name.marks: loads, stores, comparison; blocks of cells as lists. -/
namespace Go.Proofs.Ytdhdpbnlhnodjaa
open Go.RowKit Go.Shelf

/-- a block of cells -/
def Lin (U : World) (g : Nat) (T : TypeId) (cs : List Value) : Prop := U.heap[g]? = some (.cells cs.toArray T (0, 0))
section
variable {U : World} {g : Nat} {T : TypeId} {cs : List Value}
theorem Lin.lt (h : Lin U g T cs) : g < U.heap.size := (Array.getElem?_eq_some_iff.1 h).1
theorem Lin.cell (h : Lin U g T cs) {k : Nat} {v : Value} (hk : cs[k]? = some v) : U.cell? ⟨g, k, none⟩ = some v := by
  simp only [World.cell?, show U.heap[g]? = _ from h]
  simpa using hk
theorem Lin.frozen (h : Lin U g T cs) (k : Nat) : U.frozen? ⟨g, k, none⟩ = false := by simp [World.frozen?, show U.heap[g]? = _ from h]
theorem Lin.kept (h : Lin U g T cs) {U' : World} {row : Option Nat} (hg : U.grownBy U' row) (hne : some g ≠ row) : Lin U' g T cs := (hg.block g h.lt hne).trans h
theorem Later.grown {W : World} (x : Later W) : W.grownBy x.w none := ⟨x.le.os, x.le.tape, x.le.output, x.size, fun k hk _ => x.le.block k hk⟩
theorem Lin.later (h : Lin U g T cs) (x : Later U) : Lin x.w g T cs := h.kept x.grown (by simp)
theorem Lin.set (h : Lin U g T cs) (k : Nat) (v : Value) : Lin (U.setCell ⟨g, k, none⟩ v) g T (cs.set k v) := by
  show _ = _
  rw [heap_setCell_same _ _ _ _ _ _ h]
  simp
theorem grownBy_setCell_at (w : World) (b k : Nat) (u : Value) : w.grownBy (w.setCell ⟨b, k, none⟩ u) (some b) := ⟨rfl, rfl, rfl, by simp [World.setCell], fun j _ hne => Below.heap_setCell _ _ _ j (fun e => hne (by rw [e]))⟩
theorem Lin.other (h : Lin U g T cs) {b k : Nat} (hb : g ≠ b) (v : Value) : Lin (U.setCell ⟨b, k, none⟩ v) g T cs := h.kept (grownBy_setCell_at U b k v) (by simp; omega)
theorem Lin.new (W : World) (T : TypeId) (cs : List Value) : Lin (W.alloc (.cells cs.toArray T)) W.heap.size T cs := World.alloc_heap_new _ _
end
/-- an array's cells -/
def aggA (xs : List Int) : Array Value := (xs.map (Value.int .i64)).toArray
theorem run_part_agg (xs : List Int) {i : Nat} (hi : i < xs.length) (w : World) : (part 3 (aggA xs) (i * 1)).run Try.prog w = .ok (.int .i64 (nth xs i)) w := by
  refine run_part_plain w (by kernel_rfl) ?_
  simp [aggA, hi, nth]
theorem eqItems_ints (xs ys : List Int) (d : Nat) (w : World) : ∀ is : List Nat, (∀ i ∈ is, i < xs.length ∧ i < ys.length) →
    (Op.eqItems (d + 1) 3 1 (aggA xs) (aggA ys) is).run Try.prog w = .ok (is.all fun i => nth xs i == nth ys i) w
  | [], _ => by simp [Op.eqItems]
  | i :: is, h => by
    have hi := h i (by simp)
    have ih := eqItems_ints xs ys d w is fun j hj => h j (by simp [hj])
    rw [Op.eqItems, Sem.run_bind, run_part_agg xs hi.1, Result.andThen_ok, Sem.run_bind, run_part_agg ys hi.2, Result.andThen_ok, Sem.run_bind, run_equalIn_int w d 3 .i64 .i64 _ _ Try.underlying3, Result.andThen_ok, List.all_cons]
    cases nth xs i == nth ys i
    · simp
    · simp [ih]
theorem all_eq {n : Nat} {xs ys : List Int} (h1 : xs.length = n) (h2 : ys.length = n) : ((List.range n).all fun i => nth xs i == nth ys i) = decide (xs = ys) := by
  rw [Bool.eq_iff_iff, List.all_eq_true, decide_eq_true_iff]
  constructor
  · intro h
    refine List.ext_getElem (by rw [h1, h2]) fun j hj hj' => ?_
    have := h j (List.mem_range.2 (by omega))
    rw [beq_iff_eq, nth_eq hj, nth_eq hj'] at this
    exact this
  · rintro rfl j _; simp
theorem cellsInt : Try.prog.cellsOf 3 = 1 := by kernel_rfl
theorem infoInt : ∃ i, Try.prog.info? 3 = some i := Option.isSome_iff_exists.1 (by kernel_rfl)
theorem run_eq_marks (xs ys : List Int) (h1 : xs.length = 20) (h2 : ys.length = 20) (w : World) : (Op.equal 89 (.agg (aggA xs)) (.agg (aggA ys))).run Try.prog w = .ok (decide (xs = ys)) w := by
  obtain ⟨i, hi⟩ := infoInt
  show (Op.equalIn (9999 + 1) 89 _ _).run Try.prog w = _
  rw [run_equalIn_array w 9999 _ _ Try.underlying89 hi, cellsInt, eqItems_ints xs ys 9998 w _ fun i hi => by rw [List.mem_range] at hi; omega, all_eq h1 h2]
/-- two pairs are equal -/
theorem run_eq_pair (a b c d : Int) (w : World) : (Op.equalIn 10000 55 (.agg #[.int .i64 a, .int .i64 b]) (.agg #[.int .i64 c, .int .i64 d])).run Try.prog w = .ok (a == c && b == d) w := by
  obtain ⟨i, hi⟩ := infoInt
  show (Op.equalIn (9999 + 1) 55 (.agg (aggA [a, b])) (.agg (aggA [c, d]))).run Try.prog w = _
  rw [run_equalIn_array w 9999 _ _ Try.underlying55 hi, cellsInt, eqItems_ints [a, b] [c, d] 9998 w _ fun i hi => by rw [List.mem_range] at hi; simp; omega]
  simp [List.range_succ, nth]
/-- a block that holds marks -/
def Arr (W : World) (c : Nat) (xs : List Int) : Prop := W.heap[c]? = some (.cells (aggA xs) 89 (0, 0))
theorem Arr.range {W : World} {c : Nat} {xs : List Int} (h : Arr W c xs) : W.rangeAt c 0 (xs.map (Value.int .i64)) := fun j v hj => by
  rw [Nat.zero_add]
  simpa [World.cell?, show W.heap[c]? = _ from h, aggA] using hj
theorem Arr.kept {W W' : World} {c : Nat} {xs : List Int} {row : Option Nat} (h : Arr W c xs) (hg : W.grownBy W' row) (hne : some c ≠ row) : Arr W' c xs := (hg.block c (Array.getElem?_eq_some_iff.1 h).1 hne).trans h
theorem Arr.lt {W : World} {c : Nat} {xs : List Int} (h : Arr W c xs) : c < W.heap.size := (Array.getElem?_eq_some_iff.1 h).1
theorem Arr.lin {W : World} {c : Nat} {xs : List Int} : Arr W c xs ↔ Lin W c 89 (xs.map (Value.int .i64)) := Iff.rfl
theorem Arr.later {W : World} {c : Nat} {xs : List Int} (h : Arr W c xs) (x : Later W) : Arr x.w c xs := h.kept x.grown (by simp)
theorem Arr.cell {W : World} {c : Nat} {xs : List Int} (h : Arr W c xs) {k : Nat} (hk : k < xs.length) : W.cell? ⟨c, k, none⟩ = some (.int .i64 (nth xs k)) := Lin.cell (cs := xs.map (Value.int .i64)) h (by simp [hk, nth])
theorem Arr.frozen {W : World} {c : Nat} {xs : List Int} (h : Arr W c xs) (k : Nat) : W.frozen? ⟨c, k, none⟩ = false := Lin.frozen (cs := xs.map (Value.int .i64)) h k
theorem Arr.set {W : World} {c : Nat} {xs : List Int} (h : Arr W c xs) (k : Nat) (y : Int) : Arr (W.setCell ⟨c, k, none⟩ (.int .i64 y)) c (xs.set k y) := by
  have := Lin.set (cs := xs.map (Value.int .i64)) h k (.int .i64 y)
  rw [← List.map_set] at this
  exact this
section
variable {ops : Array Oper} {rest : List Oper} {op : Oper} {a : Act} {Q : Exit → Act → World → Prop}
theorem marks_size {xs : List Int} (h : xs.length = 20) : (Try.prog.info? 89).map (·.size) = some (xs.map (Value.int .i64)).length := by rw [List.length_map, h]; kernel_rfl
theorem wpList_load_marks {w : World} (hgd : op.guard = none) (x : Operand) (ho : op.op = .load 89 x) (b o : Nat) (hx : a.eval x = .pointer (some ⟨b, o, none⟩)) (xs : List Int) (hl : xs.length = 20) (hc : w.rangeAt b o (xs.map (Value.int .i64)))
    (h : wpList Try.prog ops Q rest (a.put op.dst (.agg (aggA xs))) w) : wpList Try.prog ops Q (op :: rest) a w :=
  wpList_load_mid hgd _ x ho b o hx _ _ hc Try.underlying89 rfl (marks_size hl) h
theorem wpList_store_marks {w : World} (hgd : op.guard = none) (x y : Operand) (ho : op.op = .store 89 x y) {c : Array Value} (hx : a.eval x = .pointer (some ⟨w.heap.size, 0, none⟩)) (xs : List Int) (hy : a.eval y = .agg (aggA xs)) (hl : xs.length = 20) (hsz : c.size = 20)
    (h : ∀ w' : World, Arr w' w.heap.size xs → (∃ x : Later w, x.w = w') → wpList Try.prog ops Q rest (a.put op.dst undef) w') : wpList Try.prog ops Q (op :: rest) a (w.alloc (.cells c 89)) :=
  wpList_plain hgd fun _ hK => by
    unfold Oper.wp execOp
    simp only [ho, hx, hy, Sem.run_bind]
    rw [run_storeAt_new w _ c (aggA xs) (by simp only [aggA, List.size_toArray]; exact marks_size hl) (by simp [aggA, hl, hsz]) (by
      rw [Array.all_eq_true_iff_forall_mem]
      intro v hv
      simp only [aggA, List.mem_toArray, List.mem_map] at hv
      obtain ⟨y, _, rfl⟩ := hv
      rfl)]
    simp only [Result.andThen_ok, Sem.run_pure]
    exact hK _ _ (h _ (World.alloc_heap_new w _) ⟨Later.new _ _, rfl⟩)
theorem quiet_load_marks {C : World → Prop} {K : Act → Prop} (x : Operand) (ho : op.op = .load 89 x) (b o : Nat) (hx : a.eval x = .pointer (some ⟨b, o, none⟩)) (xs : List Int) (hl : xs.length = 20) (hc : ∀ w, C w → w.rangeAt b o (xs.map (Value.int .i64)))
    (h : K (a.put op.dst (.agg (aggA xs)))) : op.quiet Try.prog a C K :=
  ⟨_, fun w hw => by
    unfold Oper.quietAt execOp
    simp only [ho, hx, Instr.loadAt, Instr.sureAddr, Sem.run_bind, Sem.run_pure, Result.andThen_ok, run_loadVar_mid w b o _ _ _ (hc w hw) Try.underlying89 rfl (marks_size hl)]
    exact ⟨rfl, rfl⟩, h⟩
theorem quiet_eq_marks {C : World → Prop} {K : Act → Prop} (x y : Operand) (t' : TypeId) (ho : op.op = .binOp .eql 89 x y t') (xs ys : List Int) (hx : a.eval x = .agg (aggA xs)) (hy : a.eval y = .agg (aggA ys)) (hl : xs.length = 20) (hl' : ys.length = 20)
    (h : K (a.put op.dst (.bool (decide (xs = ys))))) : op.quiet Try.prog a C K :=
  ⟨_, fun w _ => by
    have hg : (eqGuard .eql 89 x y (.agg (aggA xs)) (.agg (aggA ys))).run Try.prog w = .ok () w := by
      have he : Try.prog.eqGuardType Try.prog.depth 89 = false := by kernel_rfl
      simp [eqGuard, he]
    unfold Oper.quietAt execOp
    simp only [ho, hx, hy, Sem.run_bind, hg, Result.andThen_ok]
    rw [show binOp .eql 89 (.agg (aggA xs)) (.agg (aggA ys)) = (do pure (.bool (← Op.equal 89 (.agg (aggA xs)) (.agg (aggA ys))))) from rfl]
    simp only [Sem.run_bind, run_eq_marks xs ys hl hl', Result.andThen_ok, Sem.run_pure]
    exact ⟨rfl, rfl⟩, h⟩
end
end Go.Proofs.Ytdhdpbnlhnodjaa

/-  Lists of lists of numbers that a call makes by append. -/
namespace Go.Proofs.Ytdhdpbnlhnodjaa
open Go.RowKit
theorem info_slice : ∃ i : TypeInfo, Try.prog.info? 23 = some i ∧ i.zero = some (.slice none 0 0) ∧ i.size = 1 ∧ i.bytes = 24 := by
  have h : (Try.prog.info? 23).map (fun i => (i.zero, i.size, i.bytes)) = some (some (.slice none 0 0), 1, 24) := by kernel_rfl
  obtain ⟨i, hi, hz⟩ := Option.map_eq_some_iff.1 h
  simp only [Prod.mk.injEq] at hz
  exact ⟨i, hi, hz.1, hz.2.1, hz.2.2⟩
/-- a list that lies below lo, or in a block of numbers -/
def Sep (lo : Nat) (w : World) (u : Value) : Prop := ∀ b off n c, u = .slice (some ⟨b, off, none⟩) n c → n ≠ 0 → b < lo ∨ ∃ cs z, w.heap[b]? = some (.cells cs 3 z)
theorem Sep.later {lo : Nat} {w : World} {u : Value} (h : Sep lo w u) (x : Later w) : Sep lo x.w u := fun b off n c e hn => by
  rcases h b off n c e hn with h | ⟨cs, z, h⟩
  · exact .inl h
  · exact .inr ⟨cs, z, (x.le.block b (Array.getElem?_eq_some_iff.1 h).1).trans h⟩
theorem Sep.of_ints {w W : World} {u : Value} {xs : List Int} (h : Ints w u xs) : Sep w.heap.size W u := fun b off n c e hn => by
  obtain ⟨_, ⟨_, a, cp, e2⟩ | ⟨b', off', cp, e2, _, hb, _⟩⟩ := h
  · rw [e2] at e; cases e; exact absurd rfl hn
  · rw [e2] at e; cases e; exact .inl hb
theorem Sep.of_own {lo lo' : Nat} {w : World} {u : Value} {xs : List Int} (h : IntsM lo' w u xs) : Sep lo w u := fun b off n c e hn => by
  obtain ⟨_, ⟨e2, _⟩ | ⟨g, cap, cur, e2, _, hg, _⟩⟩ := h
  · rw [e2] at e; cases e
  · rw [e2] at e; cases e; exact .inr ⟨_, _, hg⟩
/-- Several lists, in a slice of one's own: the lists lie below it, or in blocks of numbers. -/
def Rows2M (lo : Nat) (w : World) (v : Value) (xss : List (List Int)) : Prop :=
  ∃ vs : List Value, vs.length = xss.length ∧ w.ownsRow lo 23 1 v xss.length vs ∧
    ∀ k, k < xss.length → Ints w (vs.getD k undef) (row xss k) ∧ Sep lo w (vs.getD k undef)
theorem Rows2M.nil (lo : Nat) (w : World) : Rows2M lo w (.slice none 0 0) [] := ⟨[], rfl, World.ownsRow_nil _ _ _ _, fun _ hk => absurd hk (Nat.not_lt_zero _)⟩
theorem Rows2M.form {lo : Nat} {w : World} {v : Value} {xss : List (List Int)} (h : Rows2M lo w v xss) : ∃ a c, v = .slice a xss.length c := by
  obtain ⟨_, _, ⟨_, ⟨rfl, h0⟩ | ⟨g, cap, cur, rfl, _⟩⟩, _⟩ := h
  · rw [h0]; exact ⟨_, _, rfl⟩
  · exact ⟨_, _, rfl⟩
theorem Rows2M.form' {lo : Nat} {w : World} {v : Value} {xss : List (List Int)} (h : Rows2M lo w v xss) : ∃ a n c, v = .slice a n c := by
  obtain ⟨a, c, e⟩ := h.form; exact ⟨a, _, c, e⟩
theorem Rows2M.cap {lo : Nat} {w : World} {a : Option Addr} {n c : Nat} {xss : List (List Int)} (h : Rows2M lo w (.slice a n c) xss) : xss.length ≤ c := by
  obtain ⟨_, _, ⟨_, ⟨e, h0⟩ | ⟨g, cap, cur, e, _, _, hn, _⟩⟩, _⟩ := h
  · rw [h0]; exact Nat.zero_le _
  · cases e; exact hn
theorem Rows2M.rows {lo : Nat} {w : World} {v : Value} {xss : List (List Int)} (h : Rows2M lo w v xss) (hl : xss.length ≤ 9007199254740992) : Rows2 w v xss := by
  obtain ⟨vs, hvl, ⟨h1, ⟨rfl, h0⟩ | ⟨g, cap, cur, rfl, _, hg, hnc, hcm, hcs, htk⟩⟩, hr⟩ := h
  · have : xss = [] := List.eq_nil_of_length_eq_zero h0
    subst this
    exact ⟨by simp, .inl ⟨rfl, none, 0, rfl⟩⟩
  · refine ⟨hl, .inr ⟨g, 0, cap, fun k => vs.getD k undef, rfl, hnc, (Array.getElem?_eq_some_iff.1 hg).1, fun k hk => ⟨?_, (hr k hk).1⟩⟩⟩
    have e : (cur.toList.take (xss.length * 1))[k]? = some (vs.getD k undef) := by
      rw [htk]; simp [hvl, hk]
    rw [List.getElem?_take, if_pos (by omega)] at e
    simp only [World.cell?, hg, Nat.zero_add]
    simpa using e
theorem Rows2M.later {lo : Nat} {w : World} {v : Value} {xss : List (List Int)} (h : Rows2M lo w v xss) (x : Later w) : Rows2M lo x.w v xss := by
  obtain ⟨vs, hvl, hown, hr⟩ := h
  exact ⟨vs, hvl, hown.kept (row := none) ⟨x.le.os, x.le.tape, x.le.output, x.size, fun k hk _ => x.le.block k hk⟩ (by cases hv : v.ownBlock <;> simp), fun k hk => ⟨(hr k hk).1.later x, (hr k hk).2.later x⟩⟩
theorem Rows2M.lt {lo : Nat} {w : World} {v : Value} {xss : List (List Int)} (h : Rows2M lo w v xss) {k : Nat} (hk : v.ownBlock = some k) : lo ≤ k ∧ k < w.heap.size := by
  obtain ⟨vs, hvl, hown, _⟩ := h
  exact hown.lt k hk
theorem Rows2M.below {lo : Nat} {w w' : World} {v : Value} {xss : List (List Int)} (h : Rows2M lo w v xss) (hg : w.grownBy w' v.ownBlock) (hlo : lo ≤ w.heap.size) : Below lo w w' :=
  (Below.refl lo w).grown hg hlo fun _ hk => (h.lt hk).1
theorem Ints.kept {w w' : World} {u : Value} {xs : List Int} (h : Ints w u xs) {r : Option Nat} (hg : w.grownBy w' r) (hne : ∀ b off n c, u = .slice (some ⟨b, off, none⟩) n c → n ≠ 0 → some b ≠ r) : Ints w' u xs := by
  obtain ⟨h1, h2 | ⟨b, off, cap, hv, hl, hb, hc⟩⟩ := h
  · exact ⟨h1, .inl h2⟩
  · by_cases hx : xs = []
    · subst hx; exact ⟨h1, .inl ⟨rfl, _, _, hv⟩⟩
    · exact ⟨h1, .inr ⟨b, off, cap, hv, hl, Nat.lt_of_lt_of_le hb hg.size, fun k hk => hg.cell (hc k hk) (hne b off _ _ hv (by simpa using hx))⟩⟩
/-- another block than the one of lists -/
theorem Sep.ne {lo : Nat} {w : World} {u v : Value} {n : Nat} {vs : List Value} (h : Sep lo w u) (hown : w.ownsRow lo 23 1 v n vs) (b off m c) (e : u = .slice (some ⟨b, off, none⟩) m c) (hm : m ≠ 0) : some b ≠ v.ownBlock := fun hb => by
  rcases h b off m c e hm with h | ⟨cs, z, h⟩
  · have := (hown.lt b hb.symm).1; omega
  · rcases hown.2 with ⟨rfl, _⟩ | ⟨g, cap, cur, rfl, _, hg, _⟩
    · simp [Value.ownBlock] at hb
    · simp [Value.ownBlock] at hb
      subst hb
      rw [hg] at h
      simp at h
theorem Sep.kept {lo : Nat} {w w' : World} {u : Value} (h : Sep lo w u) {r : Option Nat} (hg : w.grownBy w' r) (hne : ∀ b off n c, u = .slice (some ⟨b, off, none⟩) n c → n ≠ 0 → some b ≠ r) : Sep lo w' u := fun b off n c e hn => by
  rcases h b off n c e hn with h2 | ⟨cs, z, h2⟩
  · exact .inl h2
  · exact .inr ⟨cs, z, (hg.block b (Array.getElem?_eq_some_iff.1 h2).1 (hne b off n c e hn)).trans h2⟩
/-- append(v, x) of a list to lists -/
theorem run_app_row (w : World) (lo : Nat) (v x : Value) (xss : List (List Int)) (ys : List Int) (b c : Nat) (hv : Rows2M lo w v xss) (hx : Ints w x ys) (hxs : Sep lo w x) (hlo : lo ≤ w.heap.size)
    (hb : w.cell? ⟨b, 0, none⟩ = some x) (hbig : xss.length + 1 ≤ 1000000000000) (ty : TypeId) :
    ∃ v' w', (Builtin.append_ #[52, 52] ty #[v, .slice (some ⟨b, 0, none⟩) 1 c]).run Try.prog w = .ok v' w' ∧ Rows2M lo w' v' (xss ++ [ys]) ∧ w.grownBy w' v.ownBlock := by
  obtain ⟨i, hi, hz, hsz, hby⟩ := info_slice
  obtain ⟨vs, hvl, hown, hr⟩ := hv
  have hx1 : x.oneCell' = true := by obtain ⟨a, c, rfl⟩ := hx.form; rfl
  obtain ⟨v', w', hrun, hown2, hg2, _⟩ := run_append_own w lo 52 ty 23 i (.slice none 0 0) 1 24 Try.underlying52 hi hz hsz hby rfl (by decide) v xss.length _ hown ⟨b, 0, none⟩ 1 c
    [x] rfl (by
      intro j u hj
      match j with
      | 0 => simp at hj; subst hj; exact hb
      | j + 1 => simp at hj) (by
      intro u hu
      simp at hu; subst hu; exact hx1) (by simp only [maxLen]; omega) (by omega) hlo
  refine ⟨v', w', hrun, ⟨vs ++ [x], by simp [hvl], by rw [List.length_append]; exact hown2, fun k hk => ?_⟩, hg2⟩
  by_cases hlt : k < xss.length
  · have e1 : (vs ++ [x]).getD k undef = vs.getD k undef := by simp [List.getD_eq_getElem?_getD, List.getElem?_append_left (show k < vs.length by omega)]
    have e2 : row (xss ++ [ys]) k = row xss k := by simp [row, List.getD_eq_getElem?_getD, List.getElem?_append_left hlt]
    rw [e1, e2]
    obtain ⟨h1, h2⟩ := hr k hlt
    have hne := h2.ne hown
    exact ⟨h1.kept hg2 hne, h2.kept hg2 hne⟩
  · obtain rfl : k = xss.length := by simp at hk; omega
    have e1 : (vs ++ [x]).getD xss.length undef = x := by simp [List.getD_eq_getElem?_getD, ← hvl]
    have e2 : row (xss ++ [ys]) xss.length = ys := by simp [row]
    rw [e1, e2]
    have hne := hxs.ne hown
    exact ⟨hx.kept hg2 hne, hxs.kept hg2 hne⟩
/-- append(v, x) of a list x -/
theorem app_row_step {W wr : World} (hB : Below W.heap.size W wr) {v x : Value} {xss : List (List Int)} {ys : List Int} (hA : Rows2M W.heap.size wr v xss) (hx : Ints wr x ys) (hs : Sep W.heap.size wr x) (hbig : xss.length + 1 ≤ 1000000000000) (ty : TypeId) :
    ∃ v', ∃ q : Later W, (Builtin.append_ #[52, 52] ty #[v, .slice (some ⟨wr.heap.size, 0, none⟩) 1 1]).run Try.prog (wr.alloc (.cells #[x] 23)) = .ok v' q.w ∧ Rows2M W.heap.size q.w v' (xss ++ [ys]) ∧ wr.grownBy q.w v.ownBlock := by
  have hA' := hA.later (Later.new wr (.cells #[x] 23))
  have hx' := hx.later (Later.new wr (.cells #[x] 23))
  have hs' := hs.later (Later.new wr (.cells #[x] 23))
  rw [Later.new_w] at hA' hx' hs'
  obtain ⟨v', w', h1, h2, h3⟩ := run_app_row (wr.alloc (.cells #[x] 23)) W.heap.size v x xss ys wr.heap.size 1 hA' hx' hs' (by have := hB.size; simp; omega) (by simp [go_sem]) hbig ty
  have hb := hA'.below h3 (by have := hB.size; simp; omega)
  exact ⟨v', ⟨w', ((hB.alloc hB.size _).trans hb)⟩, h1, h2, ⟨h3.os, h3.tape, h3.output, Nat.le_trans (by simp) h3.size, fun k hk hne => (h3.block k (by simp; omega) hne).trans (Below.heap_alloc _ _ k hk)⟩⟩
theorem Addr.some_block {a b : Nat} {o o' : Nat} (h : (some ⟨a, o, none⟩ : Option Addr) = some ⟨b, o', none⟩) : a = b := by cases h; rfl
/-- make([]int, n) -/
theorem IntsM.zeros (w : World) {lo b n : Nat} (hb : b = w.heap.size) (hlo : lo ≤ w.heap.size) (hn : n ≤ 1000000) : IntsM lo (w.alloc (.cells (madeCells #[.int .i64 0] n) 3)) (.slice (some ⟨b, 0, none⟩) n n) (List.replicate n 0) := by
  subst hb
  have h := World.alloc_heap_new w (.cells (madeCells #[.int .i64 0] n) 3)
  have hsz : (madeCells #[Value.int .i64 0] n).size = n := by simp [madeCells]
  refine ⟨by simp, .inr ⟨w.heap.size, n, _, by rw [List.length_replicate], hlo, h, by simp, by simp only [maxLen]; omega, by rw [hsz]; simp, ?_⟩⟩
  apply List.ext_getElem?
  intro i
  by_cases hi : i < n
  · simp [madeCells, hi, Nat.mod_one]
  · simp [madeCells, hi, Nat.mod_one]
theorem run_make_ints (n : Nat) (hn : n ≤ 1000000) (w : World) : (Instr.makeSlice 23 (.int .i64 (n : Int)) (.int .i64 (n : Int))).run Try.prog w = .ok (.slice (some ⟨w.heap.size, 0, none⟩) n n) (w.alloc (.cells (madeCells #[.int .i64 0] n) 3)) :=
  run_make_row' _ _ _ 8 Try.underlying23 (by kernel_rfl) rfl _ _ _ (by omega) (by omega) w
/-- a world behind u, in which only a block of one's own has changed -/
theorem IntsM.stepB {u w' : World} (y : Later u) {L : Nat} {v : Value} {xs : List Int} (hL : u.heap.size = L) (h : IntsM L y.w v xs) (hg : y.w.grownBy w' v.ownBlock) : ∃ q : Later u, w' = q.w := by
  subst hL
  exact ⟨⟨w', y.le.trans (h.below hg y.size)⟩, rfl⟩
theorem rep_set (n j : Nat) (hj : j < n) : (List.replicate j (-1 : Int) ++ List.replicate (n - j) 0).set j (-1) = List.replicate (j + 1) (-1) ++ List.replicate (n - (j + 1)) 0 := by
  rw [List.set_append_right _ _ (by simp), show n - j = n - (j + 1) + 1 by omega, List.replicate_succ, List.length_replicate, Nat.sub_self, List.set_cons_zero, List.replicate_succ', List.append_assoc]
  rfl
end Go.Proofs.Ytdhdpbnlhnodjaa

/-  append(x[:len(x):len(x)], y): always a new block. -/
namespace Go.Proofs.Ytdhdpbnlhnodjaa
open Go.RowKit

theorem app_capped (U : World) (a : Option Addr) (n c : Nat) (xs : List Int) (hx : Ints U (.slice a n c) xs) (yv : Value) (y : Int) (hy : Ints U yv [y]) (hbig : n + 1 ≤ 100000) (ty : TypeId) :
    ∃ a' n' c', ∃ q : Later U, (Builtin.append_ #[23, 23] ty #[.slice a n n, yv]).run Try.prog U = .ok (.slice a' n' c') q.w ∧ IntsM U.heap.size q.w (.slice a' n' c') (xs ++ [y]) := by
  obtain ⟨i, hi, hz, hsz, hby⟩ := info_intM
  have hn : n = xs.length := by obtain ⟨a', c', e⟩ := hx.form; cases e; rfl
  subst hn
  have hx' := hx
  have hs := src_intsM hy i hsz
  have hold : (Builtin.firstCells i.size xs.length (.slice a xs.length xs.length)).run Try.prog U.drew = .ok (xs.map (Value.int .i64)).toArray U.drew := by
    obtain ⟨_, ⟨rfl, a2, c2, e⟩ | ⟨b, off, cap, e, hcp, hb, hc⟩⟩ := hx'
    · cases e
      cases a with
      | none => rw [run_firstCells_none]; rfl
      | some ad => rw [hsz]; exact run_firstCells_some _ _ _ _ _ _ [] (by simp) (by simp)
    · cases e
      rw [hsz]
      refine run_firstCells_some _ _ _ _ _ _ _ (by simp) (fun j u hj => ?_)
      rw [List.getElem?_map] at hj
      obtain ⟨x, hx2, rfl⟩ := Option.map_eq_some_iff.1 hj
      have hjl := (List.getElem?_eq_some_iff.1 hx2).1
      have h3 := hc j hjl
      rw [nth_eq hjl, (List.getElem?_eq_some_iff.1 hx2).2] at h3
      rw [Addr.add_lit]
      exact h3
  have hrun := run_append_grow_src (P := Try.prog) (w := U) 23 23 ty 3 i (.int .i64 0) Try.underlying23 hi hz a xs.length xs.length (xs.map (Value.int .i64)) hold _ 1 _ hs (by omega) (by omega) (growslice_fits (by omega) (by rw [hby]; omega))
  have hge := grownCap_ge U (xs.length + 1) xs.length 3
  have hle := grownCap_le_maxLen U (xs.length + 1) xs.length 3 (by simp only [maxLen]; omega)
  obtain ⟨cap, hcap⟩ : ∃ cap, grownCap U (xs.length + 1) xs.length 3 = cap := ⟨_, rfl⟩
  rw [hcap, show (Value.int .i64 0).cells = #[Value.int .i64 0] from rfl] at hrun
  rw [hcap] at hge hle
  clear hcap hold hs
  refine ⟨_, _, _, (Later.draw _).step (Later.new _ _), hrun, ?_⟩
  refine ⟨by simp, .inr ⟨U.heap.size, cap, _, by simp, by simp, World.alloc_heap_new _ _, by simpa using hge, hle, ?_, ?_⟩⟩
  · simp [Builtin.zeroCells]
    omega
  · simp only [Array.toList_append, List.map_append]
    rw [List.take_left' (by simp)]
end Go.Proofs.Ytdhdpbnlhnodjaa

/-  The library's functions on lists, and 'within'. -/
namespace Go.Proofs.Ytdhdpbnlhnodjaa
open Go.RowKit
/-- the first place, from k on, at which p holds -/
def idxF (p : Int → Bool) : List Int → Nat → Int
  | [], _ => -1
  | x :: xs, k => if p x then (k : Int) else idxF p xs (k + 1)
theorem idxF_at (p : Int → Bool) (xs : List Int) (k : Nat) (h : k < xs.length) :
    idxF p (xs.drop k) k = if p (nth xs k) then (k : Int) else idxF p (xs.drop (k + 1)) (k + 1) := by
  rw [List.drop_eq_getElem_cons h, idxF, nth_eq h]
theorem idxF_end (p : Int → Bool) (xs : List Int) (k : Nat) (h : xs.length ≤ k) : idxF p (xs.drop k) k = -1 := by
  rw [List.drop_eq_nil_of_le h, idxF]
theorem idxF_lo (p : Int → Bool) : ∀ (xs : List Int) (k : Nat), (0 ≤ idxF p xs k ↔ xs.any p = true)
  | [], _ => by simp [idxF]
  | x :: xs, k => by
    simp only [idxF, List.any_cons, Bool.or_eq_true]
    by_cases h : p x = true
    · simp [h]
    · simp only [h, Bool.false_eq_true, if_false, false_or]
      exact idxF_lo p xs (k + 1)
theorem idxF_any (p : Int → Bool) (xs : List Int) : decide (0 ≤ idxF p xs 0) = xs.any p := by
  rw [Bool.eq_iff_iff, decide_eq_true_iff]; exact idxF_lo p xs 0
def outB (lo hi : Int) : Int → Bool := fun n => decide (n < lo) || decide (hi < n)
set_option maxHeartbeats 400000 in
theorem within1_calls (n lo hi : Int) (b1 b2 : Nat) (w : World) (h1 : w.cell? ⟨b1, 0, none⟩ = some (.int .i64 lo)) (h2 : w.cell? ⟨b2, 0, none⟩ = some (.int .i64 hi)) :
    Calls Try.prog 75 #[.int .i64 n, .pointer (some ⟨b1, 0, none⟩), .pointer (some ⟨b2, 0, none⟩)] w fun e w' => e = .returned (.bool (outB lo hi n)) ∧ w' = w := by
  go_enter Try.func75, Try.ntmps75
  go_wp2
  all_goals (go_ret; refine ⟨ret_bool ?_, rfl⟩; simp [outB, *])
  all_goals omega

set_option maxHeartbeats 400000 in
theorem IndexFunc_within (v : Value) (xs : List Int) (lo hi : Int) (b1 b2 : Nat) (w : World) (hx : Ints w v xs) (hb1 : b1 < w.heap.size) (hb2 : b2 < w.heap.size) (h1 : w.cell? ⟨b1, 0, none⟩ = some (.int .i64 lo)) (h2 : w.cell? ⟨b2, 0, none⟩ = some (.int .i64 hi)) :
    Calls Try.prog 85 #[v, .func (.func 75) #[] #[.pointer (some ⟨b1, 0, none⟩), .pointer (some ⟨b2, 0, none⟩)]] w (Gives (.int .i64 (idxF (outB lo hi) xs 0)) w) := by
  obtain ⟨hl, ⟨rfl, a, cap, rfl⟩ | ⟨b, off, cap, rfl, hcp, hb, hc⟩⟩ := hx
  · go_enter Try.func85, Try.ntmps85
    go_wp2
    go_loop [8] (fun i => i = .int .i64 0) (fun _ => 0)
    case atStart => rfl
    case round =>
      obtain rfl := hrel
      go_wp2
      go_ret
      exact ⟨rfl, Later.self _, rfl⟩
  · go_enter Try.func85, Try.ntmps85
    go_wp2
    go_loopw [8] (fun i wr => ∃ k : Nat, ∃ x : Later w, wr = x.w ∧ k ≤ xs.length ∧ i = .int .i64 k ∧ Hid (idxF (outB lo hi) xs 0 = idxF (outB lo hi) (xs.drop k) k)) (fun i _ => xs.length - (intOf i).toNat)
    case atStart => exact ⟨0, Later.self _, rfl, Nat.zero_le _, rfl, rfl⟩
    case round =>
      obtain ⟨k, x, rfl, hk, rfl, hp⟩ := hrel
      by_cases hlt : k < xs.length
      · have hcell := hc k hlt
        
        have hs := Lib.hid (idxF_at (outB lo hi) xs k hlt)
        clear hc
        cases he : (outB lo hi) (nth xs k)
        · go_wp2_with (go_at_call 75; refine (Later.quiet_same x (within1_calls _ lo hi b1 b2 _ ((x.cell hb1).trans h1) ((x.cell hb2).trans h2))).mono ?_; rintro e w' ⟨rfl, x, rfl⟩)
          go_roundw
          case rel => exact ⟨k + 1, _, rfl, by omega, by go_num, by unfold Hid; rw [hp.out, hs.out, if_neg (by rw [he]; simp)]⟩
          case measure => simp [intOf]; omega
        · go_wp2_with (go_at_call 75; refine (Later.quiet_same x (within1_calls _ lo hi b1 b2 _ ((x.cell hb1).trans h1) ((x.cell hb2).trans h2))).mono ?_; rintro e w' ⟨rfl, x, rfl⟩)
          go_ret
          exact ⟨ret_int (by rw [hp.out, hs.out, if_pos he]), _, rfl⟩
      · have hs := Lib.hid (idxF_end (outB lo hi) xs k (by omega))
        clear hc
        go_wp2
        go_ret
        exact ⟨ret_int (by rw [hp.out, hs.out]), x, rfl⟩


set_option maxHeartbeats 400000 in
theorem ContainsFunc_within (v : Value) (xs : List Int) (lo hi : Int) (b1 b2 : Nat) (w : World) (hx : Ints w v xs) (hb1 : b1 < w.heap.size) (hb2 : b2 < w.heap.size) (h1 : w.cell? ⟨b1, 0, none⟩ = some (.int .i64 lo)) (h2 : w.cell? ⟨b2, 0, none⟩ = some (.int .i64 hi)) :
    Calls Try.prog 67 #[v, .func (.func 75) #[] #[.pointer (some ⟨b1, 0, none⟩), .pointer (some ⟨b2, 0, none⟩)]] w (Gives (.bool (xs.any (outB lo hi))) w) := by
  have h := Lib.hid (idxF_any (outB lo hi) xs)
  go_enter Try.func67, Try.ntmps67
  go_wp2_with (go_at_call 85; (with_reducible refine (IndexFunc_within _ xs lo hi b1 b2 _ hx hb1 hb2 h1 h2).mono ?_); rintro e w' ⟨rfl, x, rfl⟩)
  go_ret
  exact ⟨ret_bool h.out, x, rfl⟩

set_option maxHeartbeats 400000 in
theorem within_calls (v : Value) (xs : List Int) (lo hi : Int) (w : World) (hx : Ints w v xs) :
    Calls Try.prog 53 #[.int .i64 lo, .int .i64 hi, v] w (Gives (.bool (!xs.any (outB lo hi))) w) := by
  go_enter Try.func53, Try.ntmps53
  go_wp2_with fail
  refine (ContainsFunc_within v xs lo hi _ _ _ ?_ ?_ ?_ ?_ ?_).mono ?_
  · exact (hx.later (Later.new _ _)).later (Later.new _ _)
  · simp; omega
  · simp
  · simp [go_sem]
  · simp [go_sem]
  rintro e w' ⟨rfl, x, rfl⟩
  go_wp2
  go_ret
  exact ⟨rfl, ((Later.new _ _).step (Later.new _ _)).step x, rfl⟩

end Go.Proofs.Ytdhdpbnlhnodjaa
