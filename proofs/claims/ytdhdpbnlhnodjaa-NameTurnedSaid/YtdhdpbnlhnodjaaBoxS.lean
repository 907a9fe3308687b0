import Derived.Test.YtdhdpbnlhnodjaaLodS
import Derived.Maps.AppendAt
/-  A sheet in a block of the call's own, both whose lists grow. -/
namespace Go.Proofs.Ytdhdpbnlhnodjaa
open Go.RowKit
theorem app_pair_at {U : World} {lo : Nat} {v : Value} {ps : List (Int × Int)} (hv : PrsM lo U v ps) (b c : Nat) (p q : Int) (h0 : U.cell? ⟨b, 0, none⟩ = some (.int .i64 p)) (h1 : U.cell? ⟨b, 1, none⟩ = some (.int .i64 q)) (hlo : lo ≤ U.heap.size) (hbig : ps.length + 1 ≤ 1000000000000) (ty : TypeId) :
    ∃ v' w', (Builtin.append_ #[22, 22] ty #[v, .slice (some ⟨b, 0, none⟩) 1 c]).run Try.prog U = .ok v' w' ∧ PrsM lo w' v' (ps ++ [(p, q)]) ∧ U.grownBy w' v.ownBlock ∧ (v'.ownBlock = v.ownBlock ∨ v'.ownBlock = some U.heap.size) := by
  obtain ⟨i, hi, hz, hsz, hby⟩ := info_pair
  obtain ⟨v', w', hrun, hown2, hg2, _, h5⟩ := run_append_own_at (P := Try.prog) U lo 22 ty 55 i (.agg #[.int .i64 0, .int .i64 0]) 2 16 Try.underlying22 hi hz hsz hby rfl (by decide) v ps.length _ hv ⟨b, 0, none⟩ 1 c
    (flatP [(p, q)]) (flatP_len _) (by
      intro j u hj
      obtain ⟨k, hk, (⟨rfl, rfl⟩ | ⟨rfl, rfl⟩)⟩ := flatP_at hj
      · obtain rfl : k = 0 := by simpa using hk
        rw [Addr.add_lit]; exact h0
      · obtain rfl : k = 0 := by simpa using hk
        rw [Addr.add_lit]; exact h1) (flatP_one _) (by simp only [maxLen]; omega) (by omega) hlo
  refine ⟨v', w', hrun, ?_, hg2, h5⟩
  rw [← flatP_app] at hown2
  unfold PrsM
  rw [List.length_append]
  exact hown2
theorem app_num_at {U : World} {lo : Nat} {v : Value} {xs : List Int} (hv : IntsM lo U v xs) (b c : Nat) (y : Int) (h0 : U.cell? ⟨b, 0, none⟩ = some (.int .i64 y)) (hlo : lo ≤ U.heap.size) (hbig : xs.length + 1 ≤ 1000000000000) (ty : TypeId) :
    ∃ v' w', (Builtin.append_ #[23, 23] ty #[v, .slice (some ⟨b, 0, none⟩) 1 c]).run Try.prog U = .ok v' w' ∧ IntsM lo w' v' (xs ++ [y]) ∧ U.grownBy w' v.ownBlock ∧ (v'.ownBlock = v.ownBlock ∨ v'.ownBlock = some U.heap.size) := by
  obtain ⟨i, hi, hz, hsz, hby⟩ := info_intM
  obtain ⟨v', w', h1, h2, h3, _, h5⟩ := run_append_own_at (P := Try.prog) U lo 23 ty 3 i (.int .i64 0) 1 8 Try.underlying23 hi hz hsz hby rfl (by decide) v xs.length _ hv
    ⟨b, 0, none⟩ 1 c [.int .i64 y] rfl (fun j u hj => by
      match j, hj with
      | 0, hj => simp at hj; subst hj; exact h0
      | j + 1, hj => simp at hj) (by intro u hu; simp at hu; subst hu; rfl) (by simp only [maxLen]; omega) (by omega) hlo
  refine ⟨v', w', h1, ?_, h3, h5⟩
  unfold IntsM
  rw [List.map_append, List.length_append]
  exact h2
theorem PrsM.of_block {w : World} {lo E : Nat} (hlo : lo ≤ E) (h : w.heap[E]? = some (.cells #[] 55)) : PrsM lo w (.slice (some ⟨E, 0, none⟩) 0 0) [] :=
  ⟨rfl, .inr ⟨E, 0, #[], rfl, hlo, h, Nat.le_refl _, by simp [maxLen], rfl, rfl⟩⟩
/-- append([][2]int{}, x...) changes nothing that was there -/
theorem app_prs_empty {u : World} {lo E : Nat} (hE : PrsM lo u (.slice (some ⟨E, 0, none⟩) 0 0) []) {x : Value} {ys : List (Int × Int)} (hx : Prs u x ys) (hlo : lo ≤ u.heap.size) (hbig : ys.length ≤ 1000000000000) (ty : TypeId) :
    ∃ a n c, ∃ q : Later u, (Builtin.append_ #[22, 22] ty #[.slice (some ⟨E, 0, none⟩) 0 0, x]).run Try.prog u = .ok (.slice a n c) q.w ∧ PrsM lo q.w (.slice a n c) ys := by
  obtain ⟨v', w', h1, h2, h3⟩ := run_app_prs u lo _ x [] ys hE hx hlo (by simpa using hbig) ty
  rw [List.nil_append] at h2
  obtain ⟨a, n, c, rfl⟩ := h2.form'
  obtain ⟨i, hi, hz, hsz, hby⟩ := info_pair
  by_cases hy : ys = []
  · have hs := src_prs hx i hsz
    have h4 := run_append_nothing u _ _ ty _ i Try.underlying22 hi (some ⟨E, 0, none⟩) 0 0 (Nat.le_refl _) x (hy ▸ hs)
    obtain ⟨_, rfl⟩ := ok_inj (h4.symm.trans h1)
    exact ⟨a, n, c, Later.self _, h1, h2⟩
  · obtain ⟨b, off, cap, rfl, hcp, hlt, hc⟩ := hx.at (k := 0) (by cases ys with | nil => exact absurd rfl hy | cons _ _ => simp)
    have hl : 0 < ys.length := by cases ys with | nil => exact absurd rfl hy | cons _ _ => simp
    have h4 := run_append_grow (P := Try.prog) u 22 ty 55 i (.agg #[.int .i64 0, .int .i64 0]) Try.underlying22 hi hz ⟨E, 0, none⟩ 0 0 [] (by simp) (by simp) ⟨b, off, none⟩ ys.length cap
      (flatP ys) (by rw [hsz, flatP_len]) (by
        intro j u hj
        obtain ⟨k, hk, (⟨rfl, rfl⟩ | ⟨rfl, rfl⟩)⟩ := flatP_at hj
        · rw [Addr.add_lit]; exact (hc k hk).1
        · rw [Addr.add_lit, show off + (k * 2 + 1) = off + k * 2 + 1 by omega]; exact (hc k hk).2) (by omega) (by omega) (growslice_fits (by omega) (by rw [hby]; omega))
    obtain ⟨_, e⟩ := ok_inj (h4.symm.trans h1)
    subst e
    exact ⟨a, n, c, (Later.draw u).step (Later.new _ _), h1, h2⟩
theorem own_ne {w : World} {lo lo' : Nat} {e e' : TypeId} {s s' n n' : Nat} {v u : Value} {xs ys : List Value} (h : w.ownsRow lo e s v n xs) (h2 : w.ownsRow lo' e' s' u n' ys) (he : e ≠ e') : v.ownBlock = none ∨ v.ownBlock ≠ u.ownBlock := by
  obtain ⟨_, hr | ⟨g, cap, cur, rfl, _, hg, _⟩⟩ := h
  · rw [hr.1]; exact .inl rfl
  · right
    intro e1
    obtain ⟨_, hr | ⟨g', cap', cur', rfl, _, hg', _⟩⟩ := h2
    · rw [hr.1] at e1; cases e1
    · simp only [Value.ownBlock, Option.some.injEq] at e1
      subst e1
      rw [hg] at hg'
      cases hg'
      exact he rfl
theorem own_ne_lin {w : World} {lo : Nat} {e e' : TypeId} {s n T : Nat} {v : Value} {xs cs : List Value} (h : w.ownsRow lo e s v n xs) (hl : Lin w T e' cs) (he : e ≠ e') : v.ownBlock ≠ some T := fun e1 => by
  obtain ⟨_, hr | ⟨g, cap, cur, rfl, _, hg, _⟩⟩ := h
  · rw [hr.1] at e1; cases e1
  · simp only [Value.ownBlock, Option.some.injEq] at e1
    subst e1
    rw [show w.heap[g]? = _ from hl] at hg
    cases hg
    exact he rfl
/-- a sheet in a block T of the call's own: its cells, and the lists that are made for it -/
structure Bx (W U : World) (T n : Nat) (m0 c0 mv cv : Value) (ps : List (Int × Int)) (xs : List Int) : Prop where
  le : Below W.heap.size W U
  lin : Lin U T 25 [.int .i64 n, m0, c0]
  m : PrsM W.heap.size U mv ps
  c : IntsM W.heap.size U cv xs
  lo : W.heap.size ≤ T
section
variable {W U U' : World} {T n : Nat} {m0 c0 mv cv : Value} {ps : List (Int × Int)} {xs : List Int}
theorem Bx.neM (h : Bx W U T n m0 c0 mv cv ps xs) : mv.ownBlock ≠ some T := own_ne_lin h.m h.lin (by decide)
theorem Bx.neC (h : Bx W U T n m0 c0 mv cv ps xs) : cv.ownBlock ≠ some T := own_ne_lin h.c h.lin (by decide)
theorem Bx.neMC (h : Bx W U T n m0 c0 mv cv ps xs) : mv.ownBlock = none ∨ mv.ownBlock ≠ cv.ownBlock := own_ne h.m h.c (by decide)
theorem Bx.neCM (h : Bx W U T n m0 c0 mv cv ps xs) : cv.ownBlock = none ∨ cv.ownBlock ≠ mv.ownBlock := own_ne h.c h.m (by decide)
theorem Bx.kept (h : Bx W U T n m0 c0 mv cv ps xs) {r : Option Nat} (hg : U.grownBy U' r) (hle : Below W.heap.size W U') (h1 : some T ≠ r) (h2 : mv.ownBlock = none ∨ mv.ownBlock ≠ r) (h3 : cv.ownBlock = none ∨ cv.ownBlock ≠ r) : Bx W U' T n m0 c0 mv cv ps xs :=
  ⟨hle, h.lin.kept hg h1, h.m.kept hg h2, World.ownsRow.kept h.c hg h3, h.lo⟩
theorem Bx.later (h : Bx W U T n m0 c0 mv cv ps xs) (x : Later U) : Bx W x.w T n m0 c0 mv cv ps xs :=
  h.kept x.grown (h.le.trans (x.le.mono h.le.size)) (by simp) (by cases mv.ownBlock <;> simp) (by cases cv.ownBlock <;> simp)
theorem Bx.appM (h : Bx W U T n m0 c0 mv cv ps xs) (b c : Nat) (p q : Int) (h0 : U.cell? ⟨b, 0, none⟩ = some (.int .i64 p)) (h1 : U.cell? ⟨b, 1, none⟩ = some (.int .i64 q)) (hbig : ps.length + 1 ≤ 1000000000000) (ty : TypeId) :
    ∃ v' w', (Builtin.append_ #[22, 22] ty #[mv, .slice (some ⟨b, 0, none⟩) 1 c]).run Try.prog U = .ok v' w' ∧ Bx W w' T n m0 c0 v' cv (ps ++ [(p, q)]) xs ∧ U.grownBy w' mv.ownBlock ∧ (v'.ownBlock = mv.ownBlock ∨ v'.ownBlock = some U.heap.size) := by
  obtain ⟨v', w', hr, hP, hg, h5⟩ := app_pair_at h.m b c p q h0 h1 h.le.size hbig ty
  exact ⟨v', w', hr, ⟨h.le.trans (h.m.below hg h.le.size), h.lin.kept hg (Ne.symm h.neM), hP, World.ownsRow.kept h.c hg h.neCM, h.lo⟩, hg, h5⟩
theorem Bx.appC (h : Bx W U T n m0 c0 mv cv ps xs) (b c : Nat) (y : Int) (h0 : U.cell? ⟨b, 0, none⟩ = some (.int .i64 y)) (hbig : xs.length + 1 ≤ 1000000000000) (ty : TypeId) :
    ∃ v' w', (Builtin.append_ #[23, 23] ty #[cv, .slice (some ⟨b, 0, none⟩) 1 c]).run Try.prog U = .ok v' w' ∧ Bx W w' T n m0 c0 mv v' ps (xs ++ [y]) ∧ U.grownBy w' cv.ownBlock ∧ (v'.ownBlock = cv.ownBlock ∨ v'.ownBlock = some U.heap.size) := by
  obtain ⟨v', w', hr, hP, hg, h5⟩ := app_num_at h.c b c y h0 h.le.size hbig ty
  exact ⟨v', w', hr, ⟨h.le.trans (h.c.below hg h.le.size), h.lin.kept hg (Ne.symm h.neC), h.m.kept hg h.neMC, hP, h.lo⟩, hg, h5⟩
theorem Bx.setM (h : Bx W U T n m0 c0 mv cv ps xs) : Bx W (U.setCell ⟨T, 1, none⟩ mv) T n mv c0 mv cv ps xs :=
  ⟨h.le.setCell (p := ⟨T, 1, none⟩) h.lo mv, h.lin.set 1 mv, h.m.kept (grownBy_setCell_at U T 1 mv) (.inr h.neM), World.ownsRow.kept h.c (grownBy_setCell_at U T 1 mv) (.inr h.neC), h.lo⟩
theorem Bx.setC (h : Bx W U T n m0 c0 mv cv ps xs) : Bx W (U.setCell ⟨T, 2, none⟩ cv) T n m0 cv mv cv ps xs :=
  ⟨h.le.setCell (p := ⟨T, 2, none⟩) h.lo cv, h.lin.set 2 cv, h.m.kept (grownBy_setCell_at U T 2 cv) (.inr h.neM), World.ownsRow.kept h.c (grownBy_setCell_at U T 2 cv) (.inr h.neC), h.lo⟩
/-- a sheet stored into a new block -/
theorem Bx.made {a b d : Value} (hle : Below W.heap.size W U) (hL : Lin U T 25 [a, b, d]) (hP : PrsM W.heap.size U mv ps) (hC : IntsM W.heap.size U cv xs) (hlo : W.heap.size ≤ T) :
    Bx W (((U.setCell ⟨T, 0, none⟩ (.int .i64 n)).setCell ⟨T, 1, none⟩ mv).setCell ⟨T, 2, none⟩ cv) T n mv cv mv cv ps xs := by
  have step : ∀ {U : World} {cs : List Value} (k : Nat) (v : Value), Below W.heap.size W U → Lin U T 25 cs → PrsM W.heap.size U mv ps → IntsM W.heap.size U cv xs → Below W.heap.size W (U.setCell ⟨T, k, none⟩ v) ∧ Lin (U.setCell ⟨T, k, none⟩ v) T 25 (cs.set k v) ∧ PrsM W.heap.size (U.setCell ⟨T, k, none⟩ v) mv ps ∧ IntsM W.heap.size (U.setCell ⟨T, k, none⟩ v) cv xs := fun {U _} k v h1 h2 h3 h4 =>
    ⟨h1.setCell (p := ⟨T, k, none⟩) hlo v, h2.set k v, h3.kept (grownBy_setCell_at U T k v) (.inr (own_ne_lin h3 h2 (by decide))), World.ownsRow.kept h4 (grownBy_setCell_at U T k v) (.inr (own_ne_lin h4 h2 (by decide)))⟩
  obtain ⟨h1, h2, h3, h4⟩ := step 0 (.int .i64 n) hle hL hP hC
  obtain ⟨h1, h2, h3, h4⟩ := step 1 mv h1 h2 h3 h4
  obtain ⟨h1, h2, h3, h4⟩ := step 2 cv h1 h2 h3 h4
  exact ⟨h1, h2, h3, h4, hlo⟩
theorem Bx.sht (h : Bx W U T n mv cv mv cv ps xs) (hp : ps.length ≤ 1000) (hx : xs.length ≤ 1000) : Sht U mv cv ps xs := ⟨h.m.prs (by omega), h.c.ints (by omega)⟩
theorem Bx.formM (h : Bx W U T n m0 c0 mv cv ps xs) : ∃ a n c, mv = .slice a n c := h.m.form'
theorem Bx.formC (h : Bx W U T n m0 c0 mv cv ps xs) : ∃ a n c, cv = .slice a n c := h.c.form'
end
end Go.Proofs.Ytdhdpbnlhnodjaa
