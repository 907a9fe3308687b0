import Derived.Test.YtdhdpbnlhnodjaaRows
import Derived.WalkKit
import Derived.WalkSpells
import Derived.WalkLawsBesides
import Derived.Deep.QuietTactic
import Derived.BigQuiet
import Derived.Lib.Hide
/-
  Plain facts on worlds and on slices that read as lists; nothing of the program stands here.
-/
namespace Go.Proofs.Ytdhdpbnlhnodjaa
open Go.RowKit

/-- A world behind `W`: of what `W` held nothing has changed. -/
structure Later (W : World) where
  w : World
  le : Below W.heap.size W w

/-- What a call leaves that returns v and changes nothing that was there. -/
def Gives (v : Value) (w : World) (e : Ending) (w' : World) : Prop := e = .returned v ∧ ∃ x : Later w, w' = x.w

namespace Later
variable {W : World}
def self (W : World) : Later W := ⟨W, Below.refl _ _⟩
theorem size (x : Later W) : W.heap.size ≤ x.w.heap.size := x.le.size
theorem lt (x : Later W) {b : Nat} (h : b < W.heap.size) : (b < x.w.heap.size) = True := eq_true (Nat.lt_of_lt_of_le h x.size)
theorem cell (x : Later W) {b o : Nat} (h : b < W.heap.size) : x.w.cell? ⟨b, o, none⟩ = W.cell? ⟨b, o, none⟩ := x.le.cell (p := ⟨b, o, none⟩) h
theorem frozen (x : Later W) {b o : Nat} (h : b < W.heap.size) : x.w.frozen? ⟨b, o, none⟩ = W.frozen? ⟨b, o, none⟩ := x.le.frozen (p := ⟨b, o, none⟩) h
def step (x : Later W) (y : Later x.w) : Later W := ⟨y.w, x.le.trans (y.le.mono x.size)⟩
def new (W : World) (o : Obj) : Later W := ⟨W.alloc o, (Below.refl _ _).alloc (Nat.le_refl _) _⟩
def draw (W : World) : Later W := ⟨W.drew, (Below.refl _ _).drew⟩
instance (W : World) : Nonempty (Later W) := ⟨self W⟩
theorem quiet {W : World} (x : Later W) {P : Program} {f : FuncId} {args : Array Value} {v : Value} (h : Calls P f args x.w (Gives v x.w)) :
    Calls P f args x.w fun e w' => e = .returned v ∧ ∃ y : Later W, w' = y.w := h.mono fun _ _ ⟨he, y, hy⟩ => ⟨he, x.step y, hy⟩
theorem quiet_same {W : World} (x : Later W) {P : Program} {f : FuncId} {args : Array Value} {v : Value} (h : Calls P f args x.w fun e w' => e = .returned v ∧ w' = x.w) :
    Calls P f args x.w fun e w' => e = .returned v ∧ ∃ y : Later W, w' = y.w := h.mono fun _ _ ⟨he, hy⟩ => ⟨he, x, hy⟩
end Later

theorem Later.new_w (W : World) (o : Obj) : (Later.new W o).w = W.alloc o := rfl
theorem Later.draw_w (W : World) : (Later.draw W).w = W.drew := rfl
theorem Later.self_w (W : World) : (Later.self W).w = W := rfl
theorem Later.step_w {W : World} (x : Later W) (y : Later x.w) : (x.step y).w = y.w := rfl
theorem lt_succ_of {b n : Nat} (h : b < n) : (b < n + 1) = True := eq_true (Nat.lt_succ_of_lt h)
theorem le_of_lt' {b n : Nat} (h : b < n) : (b ≤ n) = True := eq_true (Nat.le_of_lt h)
attribute [go_sem] Later.new_w Later.draw_w Later.self_w Later.step_w Later.lt Later.cell Later.frozen lt_succ_of le_of_lt'


/-- the k-th number of a list, the k-th list of several (plain functions, so that no walk opens them) -/
def nth (xs : List Int) (k : Nat) : Int := xs.getD k 0
def row (xss : List (List Int)) (k : Nat) : List Int := xss.getD k []
theorem nth_eq {xs : List Int} {k : Nat} (h : k < xs.length) : nth xs k = xs[k] := by simp [nth, h]
theorem row_eq {xss : List (List Int)} {k : Nat} (h : k < xss.length) : row xss k = xss[k] := by simp [row, h]

/-- A slice of integers that reads as a list. -/
def Ints (w : World) (v : Value) (xs : List Int) : Prop :=
  xs.length ≤ 9007199254740992 ∧ ((xs = [] ∧ ∃ a cap, v = .slice a 0 cap) ∨
    ∃ b off cap, v = .slice (some ⟨b, off, none⟩) xs.length cap ∧ xs.length ≤ cap ∧ b < w.heap.size ∧ ∀ k, k < xs.length → w.cell? ⟨b, off + k, none⟩ = some (.int .i64 (nth xs k)))

theorem Ints.later {w : World} {v : Value} {xs : List Int} (h : Ints w v xs) (x : Later w) : Ints x.w v xs := by
  obtain ⟨h1, h2 | ⟨b, off, cap, hv, hl, hb, hc⟩⟩ := h
  · exact ⟨h1, .inl h2⟩
  · exact ⟨h1, .inr ⟨b, off, cap, hv, hl, Nat.lt_of_lt_of_le hb x.size, fun k hk => (x.cell hb).trans (hc k hk)⟩⟩

/-- A slice of slices of integers. -/
def Rows2 (w : World) (v : Value) (xss : List (List Int)) : Prop :=
  xss.length ≤ 9007199254740992 ∧ ((xss = [] ∧ ∃ a cap, v = .slice a 0 cap) ∨
    ∃ b off cap, ∃ f : Nat → Value, v = .slice (some ⟨b, off, none⟩) xss.length cap ∧ xss.length ≤ cap ∧ b < w.heap.size ∧ ∀ k, k < xss.length → w.cell? ⟨b, off + k, none⟩ = some (f k) ∧ Ints w (f k) (row xss k))

theorem Rows2.later {w : World} {v : Value} {xss : List (List Int)} (h : Rows2 w v xss) (x : Later w) : Rows2 x.w v xss := by
  obtain ⟨h1, h2 | ⟨b, off, cap, f, hv, hl, hb, hc⟩⟩ := h
  · exact ⟨h1, .inl h2⟩
  · exact ⟨h1, .inr ⟨b, off, cap, f, hv, hl, Nat.lt_of_lt_of_le hb x.size, fun k hk => ⟨(x.cell hb).trans (hc k hk).1, (hc k hk).2.later x⟩⟩⟩

/-- A region that draws its order, whose operations only read, and whose calls leave what was there: one walk in the order of the text. -/
theorem region_later_lit {P : Program} {id : Nat} {Q : Exit → Act → World → Prop} {a : Act} {w : World} {l : List Oper} (hm : P.follows .mixedOrders = true) (hB : Region.lexB .any l.toArray = true)
    (h : wpQuiet P l.toArray (fun w' => ∃ x : Later w, w' = x.w) (fun a' => ∀ x : Later w, Q .normal a' x.w) l a) : (Code.region id l.toArray true).wp P Q a w := by
  refine wp_region_quiet (C := fun w' => ∃ x : Later w, w' = x.w) hm hB ⟨Later.draw _, rfl⟩ ?_
  have e : (fun a' => ∀ x : Later w, Q .normal a' x.w) = (fun a' => ∀ w', (∃ x : Later w, w' = x.w) → Q .normal a' w') := by
    funext a'
    exact propext ⟨fun h w' ⟨x, hx⟩ => hx ▸ h x, fun h x => h _ ⟨x, rfl⟩⟩
  rw [e] at h
  simpa using h

theorem Ints.form {w : World} {v : Value} {xs : List Int} (h : Ints w v xs) : ∃ a cap, v = .slice a xs.length cap := by
  obtain ⟨h1, ⟨rfl, a, cap, rfl⟩ | ⟨b, off, cap, rfl, _⟩⟩ := h
  · exact ⟨a, cap, rfl⟩
  · exact ⟨_, cap, rfl⟩
theorem Rows2.form {w : World} {v : Value} {xss : List (List Int)} (h : Rows2 w v xss) : ∃ a cap, v = .slice a xss.length cap := by
  obtain ⟨h1, ⟨rfl, a, cap, rfl⟩ | ⟨b, off, cap, f, rfl, _⟩⟩ := h
  · exact ⟨a, cap, rfl⟩
  · exact ⟨_, cap, rfl⟩
theorem Ints.nil {w : World} (a : Option Addr) (cap : Nat) : Ints w (.slice a 0 cap) [] := ⟨by simp, .inl ⟨rfl, a, cap, rfl⟩⟩
/-- a list of numbers written out, in a new block -/
theorem Ints.lit (w : World) (xs : List Int) {arr : Array Value} {n b : Nat} (T : TypeId) (hb : b = w.heap.size) (ha : arr = (xs.map (Value.int .i64)).toArray) (hn : n = xs.length) (hl : xs.length ≤ 9007199254740992) :
    Ints (w.alloc (.cells arr T)) (.slice (some ⟨b, 0, none⟩) n n) xs := by
  subst hb ha hn
  refine ⟨hl, .inr ⟨w.heap.size, 0, xs.length, rfl, Nat.le_refl _, by simp, fun k hk => ?_⟩⟩
  simp [nth, hk]

theorem Ints.at {w : World} {v : Value} {xs : List Int} (h : Ints w v xs) {k : Nat} (hk : k < xs.length) :
    ∃ b off cap, v = .slice (some ⟨b, off, none⟩) xs.length cap ∧ xs.length ≤ cap ∧ b < w.heap.size ∧ ∀ k, k < xs.length → w.cell? ⟨b, off + k, none⟩ = some (.int .i64 (nth xs k)) := by
  obtain ⟨h1, ⟨rfl, _⟩ | h2⟩ := h
  · simp at hk
  · exact h2
theorem Rows2.at {w : World} {v : Value} {xss : List (List Int)} (h : Rows2 w v xss) {k : Nat} (hk : k < xss.length) :
    ∃ b off cap, ∃ f : Nat → Value, v = .slice (some ⟨b, off, none⟩) xss.length cap ∧ xss.length ≤ cap ∧ b < w.heap.size ∧ (∀ j, j < xss.length → w.cell? ⟨b, off + j, none⟩ = some (f j) ∧ Ints w (f j) (row xss j)) := by
  obtain ⟨h1, ⟨rfl, _⟩ | h2⟩ := h
  · simp at hk
  · exact h2
theorem ret_int {k : IntKind} {a b : Int} (h : a = b) : Ending.returned (.int k a) = .returned (.int k b) := by rw [h]
theorem ret_two {k : IntKind} {c : Value} {a b : Int} (h : a = b) : Ending.returned (.tuple #[c, .int k a]) = .returned (.tuple #[c, .int k b]) := by rw [h]
theorem ret_bool {a b : Bool} (h : a = b) : Ending.returned (.bool a) = .returned (.bool b) := by rw [h]
theorem Calls.gives {P : Program} {f : FuncId} {args : Array Value} {w : World} {v : Value} (h : Calls P f args w fun e w' => e = .returned v ∧ w' = w) : Calls P f args w (Gives v w) :=
  h.mono fun _ _ ⟨he, hw⟩ => ⟨he, Later.self w, hw⟩

/-- What is kept through a region that draws and holds calls: a world behind W0, in which two cells read as said. -/
abbrev Held2 (W0 : World) (b : Nat) (u v : Value) (w' : World) : Prop := w'.cell? ⟨b, 0, none⟩ = some u ∧ w'.cell? ⟨b, 1, none⟩ = some v ∧ Below W0.heap.size W0 w'
theorem Held2.start {W0 : World} {b : Nat} {u v : Value} (h1 : W0.cell? ⟨b, 0, none⟩ = some u) (h2 : W0.cell? ⟨b, 1, none⟩ = some v) : Held2 W0 b u v W0.drew := ⟨h1, h2, (Below.refl _ _).drew⟩
theorem Held2.go {W0 : World} {b : Nat} {u v : Value} {w' : World} (h : Held2 W0 b u v w') (x : Later w') : Held2 W0 b u v x.w := by
  have h1 := h.1
  have hb : b < w'.heap.size := World.block_lt_of_cell? w' ⟨b, 0, none⟩ h1
  exact ⟨(x.cell hb).trans h.1, (x.cell hb).trans h.2.1, (Later.mk w' h.2.2).step x |>.le⟩
theorem Rows2.held {W0 : World} {b : Nat} {u v : Value} {w' : World} {x : Value} {xss : List (List Int)} (h : Rows2 W0 x xss) (hh : Held2 W0 b u v w') : Rows2 w' x xss := h.later ⟨w', hh.2.2⟩
theorem Ints.held {W0 : World} {b : Nat} {u v : Value} {w' : World} {x : Value} {xs : List Int} (h : Ints W0 x xs) (hh : Held2 W0 b u v w') : Ints w' x xs := h.later ⟨w', hh.2.2⟩

end Go.Proofs.Ytdhdpbnlhnodjaa

/-  Slices of pairs of numbers that read as lists. Nothing of the program stands here but the order of cells. -/
namespace Go.Proofs.Ytdhdpbnlhnodjaa
open Go.RowKit

def pr (ps : List (Int × Int)) (k : Nat) : Int × Int := ps.getD k (0, 0)
theorem pr_eq {ps : List (Int × Int)} {k : Nat} (h : k < ps.length) : pr ps k = ps[k] := by simp [pr, h]
/-- A slice of pairs that reads as a list. -/
def Prs (w : World) (v : Value) (ps : List (Int × Int)) : Prop :=
  ps.length ≤ 9007199254740992 ∧ ((ps = [] ∧ ∃ a cap, v = .slice a 0 cap) ∨
    ∃ b off cap, v = .slice (some ⟨b, off, none⟩) ps.length cap ∧ ps.length ≤ cap ∧ b < w.heap.size ∧ ∀ k, k < ps.length → w.cell? ⟨b, off + k * 2, none⟩ = some (.int .i64 (pr ps k).1) ∧ w.cell? ⟨b, off + k * 2 + 1, none⟩ = some (.int .i64 (pr ps k).2))
theorem Prs.later {w : World} {v : Value} {ps : List (Int × Int)} (h : Prs w v ps) (x : Later w) : Prs x.w v ps := by
  obtain ⟨h1, h2 | ⟨b, off, cap, hv, hl, hb, hc⟩⟩ := h
  · exact ⟨h1, .inl h2⟩
  · exact ⟨h1, .inr ⟨b, off, cap, hv, hl, Nat.lt_of_lt_of_le hb x.size, fun k hk => ⟨(x.cell hb).trans (hc k hk).1, (x.cell hb).trans (hc k hk).2⟩⟩⟩
theorem Prs.form {w : World} {v : Value} {ps : List (Int × Int)} (h : Prs w v ps) : ∃ a cap, v = .slice a ps.length cap := by
  obtain ⟨_, ⟨rfl, a, cap, rfl⟩ | ⟨b, off, cap, rfl, _⟩⟩ := h
  · exact ⟨a, cap, rfl⟩
  · exact ⟨_, cap, rfl⟩
theorem Prs.nil {w : World} (a : Option Addr) (cap : Nat) : Prs w (.slice a 0 cap) [] := ⟨by simp, .inl ⟨rfl, a, cap, rfl⟩⟩
theorem Prs.at {w : World} {v : Value} {ps : List (Int × Int)} (h : Prs w v ps) {k : Nat} (hk : k < ps.length) :
    ∃ b off cap, v = .slice (some ⟨b, off, none⟩) ps.length cap ∧ ps.length ≤ cap ∧ b < w.heap.size ∧ ∀ k, k < ps.length → w.cell? ⟨b, off + k * 2, none⟩ = some (.int .i64 (pr ps k).1) ∧ w.cell? ⟨b, off + k * 2 + 1, none⟩ = some (.int .i64 (pr ps k).2) := by
  obtain ⟨_, ⟨rfl, _⟩ | h2⟩ := h
  · simp at hk
  · exact h2
/-- a sheet by value: how many names, which places meet, which are covered -/
structure Sht (w : World) (mv cv : Value) (ms : List (Int × Int)) (cs : List Int) : Prop where
  m : Prs w mv ms
  c : Ints w cv cs
theorem Sht.later {w : World} {mv cv : Value} {ms : List (Int × Int)} {cs : List Int} (h : Sht w mv cv ms cs) (x : Later w) : Sht x.w mv cv ms cs := ⟨h.m.later x, h.c.later x⟩
/-! ### the answers -/
def isPl (n p : Int) : Bool := decide (0 ≤ p) && decide (p < 2 * n)
/-- CheckSheet -/
def vsheet (n : Int) (ms : List (Int × Int)) (cs : List Int) : Int :=
  if n < 1 ∨ 10 < n ∨ 40 < ms.length ∨ 20 < cs.length then 6
  else if (ms.any fun m => !isPl n m.1 || !isPl n m.2) = true ∨ (cs.any fun c => !isPl n c) = true then 3
  else if (ms.any fun m => m.1 / 2 == m.2 / 2) = true then 16
  else 0
end Go.Proofs.Ytdhdpbnlhnodjaa

/-  Which names can be set: the theory of steps, with no program in sight. -/
namespace Go.Proofs.Ytdhdpbnlhnodjaa
namespace Sat

def mate (p : Nat) : Nat := if p % 2 = 0 then p + 1 else p - 1
theorem mate_div (p : Nat) : mate p / 2 = p / 2 := by rw [mate]; split <;> omega
theorem mate_mate (p : Nat) : mate (mate p) = p := by
  rw [mate, mate]
  by_cases h : p % 2 = 0
  · rw [if_pos h, if_neg (by omega)]; omega
  · rw [if_neg h, if_pos (by omega)]; omega
theorem mate_ne (p : Nat) : mate p ≠ p := by rw [mate]; split <;> omega
theorem same_name {p q : Nat} (h : p / 2 = q / 2) : q = p ∨ q = mate p := by rw [mate]; split <;> omega
theorem mate_two (n : Nat) : mate (2 * n) = 2 * n + 1 := by rw [mate, if_pos (by omega)]
theorem mate_odd (n : Nat) : mate (2 * n + 1) = 2 * n := by rw [mate, if_neg (by omega)]; rfl
theorem two_of (p : Nat) : p = 2 * (p / 2) ∨ p = 2 * (p / 2) + 1 := by omega

/-- A sheet: which places meet, which are covered. -/
structure Lay where
  meet : Nat → Nat → Bool
  sym : ∀ a b, meet a b = meet b a
  irr : ∀ a b, a / 2 = b / 2 → meet a b = false
  cov : Nat → Bool
variable {L : Lay} {N : List Nat}
def lead (L : Lay) (p q : Nat) : Bool := L.meet p (mate q) || (q == mate p && L.cov p)
theorem lead_contr {p q : Nat} (h : lead L p q = true) : lead L (mate q) (mate p) = true := by
  rw [lead, Bool.or_eq_true] at h ⊢
  rcases h with h | h
  · left; rw [mate_mate, L.sym]; exact h
  · right
    rw [Bool.and_eq_true, beq_iff_eq] at h ⊢
    obtain ⟨rfl, hc⟩ := h
    exact ⟨by rw [mate_mate], by rw [mate_mate]; exact hc⟩
/-- Steps one behind the other, over places of the names. -/
inductive R (L : Lay) (N : List Nat) (p : Nat) : Nat → Prop
  | refl : R L N p p
  | step {q r : Nat} (h : R L N p q) (hl : lead L q r = true) (hr : r / 2 ∈ N) : R L N p r
theorem R.trans {p q r : Nat} (h1 : R L N p q) (h2 : R L N q r) : R L N p r := by
  induction h2 with
  | refl => exact h1
  | step _ hl hr ih => exact .step ih hl hr
theorem R.contr {p q : Nat} (hp : p / 2 ∈ N) (h : R L N p q) : R L N (mate q) (mate p) := by
  have key : ∀ q, R L N p q → q / 2 ∈ N ∧ R L N (mate q) (mate p) := fun q h => by
    induction h with
    | refl => exact ⟨hp, .refl⟩
    | step h hl hr ih => exact ⟨hr, (R.step .refl (lead_contr hl) (by rw [mate_div]; exact ih.1)).trans ih.2⟩
  exact (key q h).2
theorem R.inN {p q : Nat} (hp : p / 2 ∈ N) (h : R L N p q) : q / 2 ∈ N := by
  cases h with
  | refl => exact hp
  | step _ _ hr => exact hr
/-- A right setting of the names, by the places that it uses. -/
structure Right (L : Lay) (N : List Nat) (u : Nat → Bool) : Prop where
  one : ∀ n ∈ N, u (2 * n) = !u (2 * n + 1)
  only : ∀ p, u p = true → p / 2 ∈ N
  cov : ∀ p, u p = true → L.cov p = false
  meet : ∀ p q, u p = true → u q = true → L.meet p q = false
theorem Right.mate {u : Nat → Bool} (h : Right L N u) {p : Nat} (hp : p / 2 ∈ N) : u (mate p) = !u p := by
  have h1 := h.one _ hp
  rcases two_of p with e | e
  · rw [e, mate_two, h1, Bool.not_not]
  · rw [e, mate_odd, h1]
theorem Right.lead {u : Nat → Bool} (h : Right L N u) {p q : Nat} (hu : u p = true) (hl : lead L p q = true) (hq : q / 2 ∈ N) : u q = true := by
  rw [Sat.lead, Bool.or_eq_true, Bool.and_eq_true] at hl
  rcases hl with hl | ⟨_, hl⟩
  · have h1 := h.mate hq
    cases hq2 : u q
    · rw [hq2] at h1
      have := h.meet p _ hu h1
      rw [this] at hl; cases hl
    · rfl
  · rw [h.cov p hu] at hl; cases hl
theorem Right.reach {u : Nat → Bool} (h : Right L N u) {p q : Nat} (hu : u p = true) (hr : R L N p q) : u q = true := by
  induction hr with
  | refl => exact hu
  | step _ hl hr ih => exact h.lead ih hl hr
/-- what places lead to -/
def Cl (L : Lay) (N : List Nat) (T : List Nat) (q : Nat) : Prop := ∃ p ∈ T, R L N p q
/-- .. holds no place with its mate -/
def Agree (L : Lay) (N : List Nat) (T : List Nat) : Prop := ∀ n ∈ N, ¬ (Cl L N T (2 * n) ∧ Cl L N T (2 * n + 1))
def NoChain (L : Lay) (N : List Nat) : Prop := ∀ n ∈ N, ¬ (R L N (2 * n) (2 * n + 1) ∧ R L N (2 * n + 1) (2 * n))
theorem NoChain.place (h : NoChain L N) {p : Nat} (hp : p / 2 ∈ N) : ¬ (R L N p (mate p) ∧ R L N (mate p) p) := by
  rcases two_of p with e | e
  · rw [e, mate_two]; exact h _ hp
  · rw [e, mate_odd]; exact fun ⟨a, b⟩ => h _ hp ⟨b, a⟩
theorem Agree.place {T : List Nat} (h : Agree L N T) {p : Nat} (hp : p / 2 ∈ N) : ¬ (Cl L N T p ∧ Cl L N T (mate p)) := by
  rcases two_of p with e | e
  · rw [e, mate_two]; exact h _ hp
  · rw [e, mate_odd]; exact fun ⟨a, b⟩ => h _ hp ⟨b, a⟩
theorem not_agree {T : List Nat} (h : ¬ Agree L N T) : ∃ p, p / 2 ∈ N ∧ Cl L N T p ∧ Cl L N T (mate p) := by
  simp only [Agree, Classical.not_forall, Classical.not_not] at h
  obtain ⟨n, hn, h1, h2⟩ := h
  exact ⟨2 * n, by rw [Nat.mul_div_cancel_left _ (by decide)]; exact hn, h1, by rw [mate_two]; exact h2⟩
/-- one place more, of which the mate is not led to: then the place leads to its mate -/
theorem bad_place {T : List Nat} (_ : ∀ p ∈ T, p / 2 ∈ N) (ha : Agree L N T) {p : Nat} (hp : p / 2 ∈ N) (hb : ¬ Agree L N (p :: T)) : R L N p (mate p) ∨ Cl L N T (mate p) := by
  obtain ⟨q, hq, ⟨a, ha1, ha2⟩, ⟨b, hb1, hb2⟩⟩ := not_agree hb
  rcases List.mem_cons.1 ha1 with rfl | ha3 <;> rcases List.mem_cons.1 hb1 with rfl | hb3
  · left; have := ha2.contr hp; exact hb2.trans this
  · right; refine ⟨b, hb3, ?_⟩; have := ha2.contr hp; exact hb2.trans this
  · right; refine ⟨a, ha3, ?_⟩
    have := hb2.contr hp
    rw [mate_mate] at this
    exact ha2.trans this
  · exact absurd ⟨⟨a, ha3, ha2⟩, ⟨b, hb3, hb2⟩⟩ (ha.place hq)
theorem Agree.cl {T : List Nat} (ha : Agree L N T) {p : Nat} (hp : Cl L N T p) : Agree L N (p :: T) := fun n hn ⟨h1, h2⟩ => by
  have key : ∀ q, Cl L N (p :: T) q → Cl L N T q := fun q ⟨a, ha1, ha2⟩ => by
    rcases List.mem_cons.1 ha1 with rfl | ha1
    · obtain ⟨b, hb1, hb2⟩ := hp; exact ⟨b, hb1, hb2.trans ha2⟩
    · exact ⟨a, ha1, ha2⟩
  exact ha n hn ⟨key _ h1, key _ h2⟩
theorem extend {T : List Nat} (hc : NoChain L N) (hT : ∀ p ∈ T, p / 2 ∈ N) (ha : Agree L N T) {p : Nat} (hp : p / 2 ∈ N) : Agree L N (p :: T) ∨ Agree L N (mate p :: T) := by
  apply Classical.byContradiction
  intro h
  obtain ⟨h1, h2⟩ := not_or.1 h
  have hm : mate p / 2 ∈ N := by rw [mate_div]; exact hp
  rcases bad_place hT ha hp h1 with a | a
  · rcases bad_place hT ha hm h2 with b | b
    · rw [mate_mate] at b; exact hc.place hp ⟨a, b⟩
    · rw [mate_mate] at b; exact h1 (ha.cl b)
  · exact h2 (ha.cl a)
theorem Agree.perm {T T' : List Nat} (h : ∀ p, p ∈ T' → p ∈ T) (ha : Agree L N T) : Agree L N T' := fun n hn ⟨⟨a, a1, a2⟩, ⟨b, b1, b2⟩⟩ => ha n hn ⟨⟨a, h a a1, a2⟩, ⟨b, h b b1, b2⟩⟩
/-- some right setting uses these places -/
def Can (L : Lay) (N T : List Nat) : Prop := ∃ u, Right L N u ∧ ∀ p ∈ T, u p = true
theorem Can.agree {T : List Nat} (h : Can L N T) : Agree L N T := fun n hn ⟨⟨a, a1, a2⟩, ⟨b, b1, b2⟩⟩ => by
  obtain ⟨u, hu, ht⟩ := h
  have h1 := hu.reach (ht a a1) a2
  have h2 := hu.reach (ht b b1) b2
  have := hu.one n hn
  rw [h1, h2] at this
  cases this
theorem Can.noChain {T : List Nat} (h : Can L N T) : NoChain L N := fun n hn ⟨h1, h2⟩ => by
  obtain ⟨u, hu, _⟩ := h
  have h0 := hu.one n hn
  cases hb : u (2 * n + 1)
  · rw [hb] at h0
    rw [hu.reach h0 h1] at hb; cases hb
  · rw [hb] at h0
    rw [hu.reach hb h2] at h0; cases h0
/-- all sides are taken -/
theorem full_right {T : List Nat} (hT : ∀ p ∈ T, p / 2 ∈ N) (ha : Agree L N T) (hf : ∀ n ∈ N, 2 * n ∈ T ∨ 2 * n + 1 ∈ T) : Right L N (fun p => decide (p ∈ T)) := by
  have hcl : ∀ p, p / 2 ∈ N → ¬ (p ∈ T ∧ mate p ∈ T) := fun p hp ⟨h1, h2⟩ => ha.place hp ⟨⟨p, h1, .refl⟩, ⟨_, h2, .refl⟩⟩
  refine ⟨fun n hn => ?_, fun p hp => hT p (of_decide_eq_true hp), fun p hp => ?_, fun p q hp hq => ?_⟩
  · have h1 := hcl (2 * n) (by rw [Nat.mul_div_cancel_left _ (by decide)]; exact hn)
    rw [mate_two] at h1
    rcases hf n hn with h | h
    · have h2 : ¬ (2 * n + 1) ∈ T := fun h2 => h1 ⟨h, h2⟩
      simp [h, h2]
    · have h2 : ¬ (2 * n) ∈ T := fun h2 => h1 ⟨h2, h⟩
      simp [h, h2]
  · have hp := of_decide_eq_true hp
    cases hc : L.cov p
    · rfl
    · exact absurd ⟨⟨p, hp, .refl⟩, ⟨p, hp, .step .refl (by rw [lead, hc]; simp) (by rw [mate_div]; exact hT p hp)⟩⟩ (ha.place (hT p hp))
  · have hp := of_decide_eq_true hp
    have hq := of_decide_eq_true hq
    cases hm : L.meet p q
    · rfl
    · exact absurd ⟨⟨q, hq, .refl⟩, ⟨p, hp, .step .refl (by rw [lead, mate_mate, hm]; rfl) (by rw [mate_div]; exact hT q hq)⟩⟩ (ha.place (hT q hq))
theorem can_of {T : List Nat} (hc : NoChain L N) (hT : ∀ p ∈ T, p / 2 ∈ N) (ha : Agree L N T) : Can L N T := by
  have key : ∀ (M : List Nat), (∀ n ∈ M, n ∈ N) → ∃ T', (∀ p ∈ T', p / 2 ∈ N) ∧ Agree L N T' ∧ (∀ p ∈ T, p ∈ T') ∧ ∀ n ∈ M, 2 * n ∈ T' ∨ 2 * n + 1 ∈ T' := by
    intro M
    induction M with
    | nil => exact fun _ => ⟨T, hT, ha, fun p hp => hp, fun n hn => absurd hn (by simp)⟩
    | cons n M ih =>
      intro hM
      obtain ⟨T', h1, h2, h3, h4⟩ := ih fun k hk => hM k (by simp [hk])
      have hn : n ∈ N := hM n (by simp)
      have hn2 : (2 * n) / 2 ∈ N := by rw [Nat.mul_div_cancel_left _ (by decide)]; exact hn
      rcases extend hc h1 h2 hn2 with h | h
      · refine ⟨2 * n :: T', fun p hp => ?_, h, fun p hp => by simp [h3 p hp], fun k hk => ?_⟩
        · rcases List.mem_cons.1 hp with rfl | hp
          · exact hn2
          · exact h1 p hp
        · rcases List.mem_cons.1 hk with rfl | hk
          · left; simp
          · rcases h4 k hk with h | h
            · left; simp [h]
            · right; simp [h]
      · rw [mate_two] at h
        refine ⟨(2 * n + 1) :: T', fun p hp => ?_, h, fun p hp => by simp [h3 p hp], fun k hk => ?_⟩
        · rcases List.mem_cons.1 hp with rfl | hp
          · rw [show (2 * n + 1) / 2 = n by omega]; exact hn
          · exact h1 p hp
        · rcases List.mem_cons.1 hk with rfl | hk
          · right; simp
          · rcases h4 k hk with h | h
            · left; simp [h]
            · right; simp [h]
  obtain ⟨T', h1, h2, h3, h4⟩ := key N fun n hn => hn
  exact ⟨_, full_right h1 h2 h4, fun p hp => decide_eq_true (h3 p hp)⟩
theorem can_iff {T : List Nat} (hc : NoChain L N) (hT : ∀ p ∈ T, p / 2 ∈ N) : Can L N T ↔ Agree L N T := ⟨Can.agree, can_of hc hT⟩
theorem can_nil : Can L N [] ↔ NoChain L N := ⟨Can.noChain, fun h => can_of h (fun p hp => absurd hp (by simp)) fun n _ ⟨⟨_, h, _⟩, _⟩ => absurd h (by simp)⟩
end Sat
end Go.Proofs.Ytdhdpbnlhnodjaa

/-  Settings as lists of sides: how many are right, which is the first; no program in sight. -/
namespace Go.Proofs.Ytdhdpbnlhnodjaa
namespace Sat
variable {L : Lay} {N : List Nat}

/-- all sides of k names, in lexicographic order -/
def sidesL : Nat → List (List Nat)
  | 0 => [[]]
  | k + 1 => (sidesL k).map (0 :: ·) ++ (sidesL k).map (1 :: ·)
theorem mem_sidesL : ∀ {k : Nat} {l : List Nat}, l ∈ sidesL k ↔ l.length = k ∧ ∀ b ∈ l, b ≤ 1
  | 0, l => by
    simp only [sidesL, List.mem_singleton]
    exact ⟨fun h => by subst h; simp, fun h => List.eq_nil_of_length_eq_zero h.1⟩
  | k + 1, l => by
    simp only [sidesL, List.mem_append, List.mem_map, mem_sidesL (k := k)]
    constructor
    · rintro (⟨t, ⟨h1, h2⟩, rfl⟩ | ⟨t, ⟨h1, h2⟩, rfl⟩) <;> exact ⟨by simp [h1], by simpa using h2⟩
    · rintro ⟨h1, h2⟩
      match l, h1, h2 with
      | b :: t, h1, h2 =>
        have hb := h2 b (by simp)
        have ht : t.length = k ∧ ∀ b ∈ t, b ≤ 1 := ⟨by simpa using h1, fun c hc => h2 c (by simp [hc])⟩
        have : b = 0 ∨ b = 1 := by omega
        rcases this with rfl | rfl
        · exact .inl ⟨t, ht, rfl⟩
        · exact .inr ⟨t, ht, rfl⟩
/-- the places of sides -/
def plc (N bs : List Nat) : List Nat := List.zipWith (fun n b => 2 * n + b) N bs
theorem plc_cons (n b : Nat) (N bs : List Nat) : plc (n :: N) (b :: bs) = (2 * n + b) :: plc N bs := rfl
def free (L : Lay) (p : Nat) (used : List Nat) : Bool := !L.cov p && !used.any fun u => L.meet p u
def okF (L : Lay) (used : List Nat) : List Nat → Bool
  | [] => true
  | p :: ps => free L p used && okF L (used ++ [p]) ps
/-- how many settings there are, name by name -/
def cntF (L : Lay) : List Nat → List Nat → Nat
  | [], _ => 1
  | n :: ns, used => (if free L (2 * n) used then cntF L ns (used ++ [2 * n]) else 0) + (if free L (2 * n + 1) used then cntF L ns (used ++ [2 * n + 1]) else 0)
theorem filter_false {α : Type} (l : List α) {p : α → Bool} (h : ∀ x ∈ l, p x = false) : l.filter p = [] := List.filter_eq_nil_iff.2 fun x hx => by rw [h x hx]; simp
theorem cntF_len (L : Lay) : ∀ (N used : List Nat), cntF L N used = ((sidesL N.length).filter fun bs => okF L used (plc N bs)).length
  | [], used => rfl
  | n :: ns, used => by
    rw [cntF, List.length_cons, sidesL, List.filter_append, List.length_append, List.filter_map, List.filter_map, List.length_map, List.length_map, cntF_len L ns, cntF_len L ns]
    have key : ∀ b, ((sidesL ns.length).filter ((fun bs => okF L used (plc (n :: ns) bs)) ∘ fun x => b :: x)).length = if free L (2 * n + b) used then ((sidesL ns.length).filter fun bs => okF L (used ++ [2 * n + b]) (plc ns bs)).length else 0 := fun b => by
      cases hf : free L (2 * n + b) used
      · rw [filter_false _ fun x _ => by show okF L used ((2 * n + b) :: plc ns x) = false; rw [okF, hf, Bool.false_and]]; rfl
      · rw [if_pos rfl]
        congr 1
        exact List.filter_congr fun x _ => by show okF L used ((2 * n + b) :: plc ns x) = _; rw [okF, hf, Bool.true_and]
    rw [key 0, key 1]
    rfl
theorem okF_iff (L : Lay) : ∀ (ps used : List Nat), okF L used ps = true ↔ (∀ p ∈ ps, L.cov p = false) ∧ (∀ p ∈ ps, ∀ u ∈ used, L.meet p u = false) ∧ ps.Pairwise fun p q => L.meet p q = false
  | [], used => by simp [okF]
  | p :: ps, used => by
    rw [okF, Bool.and_eq_true, okF_iff L ps, free, Bool.and_eq_true, List.pairwise_cons]
    simp only [Bool.not_eq_true', List.any_eq_false, List.mem_append, List.mem_cons, List.not_mem_nil, or_false]
    constructor
    · rintro ⟨⟨h1, h2⟩, h3, h4, h5⟩
      refine ⟨fun q hq => ?_, fun q hq u hu => ?_, fun q hq => ?_, h5⟩
      · rcases hq with rfl | hq
        · exact h1
        · exact h3 q hq
      · rcases hq with rfl | hq
        · simpa using h2 u hu
        · exact h4 q hq u (.inl hu)
      · rw [L.sym]; exact h4 q hq p (.inr rfl)
    · rintro ⟨h1, h2, h3, h4⟩
      refine ⟨⟨h1 p (.inl rfl), fun u hu => by rw [h2 p (.inl rfl) u hu]; simp⟩, fun q hq => h1 q (.inr hq), fun q hq u hu => ?_, h4⟩
      rcases hu with hu | rfl
      · exact h2 q (.inr hq) u hu
      · rw [L.sym]; exact h3 q hq
theorem plc_mem {N bs : List Nat} {p : Nat} : p ∈ plc N bs ↔ ∃ i, ∃ (h : i < N.length) (h2 : i < bs.length), p = 2 * N[i] + bs[i] := by
  rw [plc, List.mem_iff_getElem]
  simp only [List.length_zipWith, List.getElem_zipWith]
  constructor
  · rintro ⟨i, hi, rfl⟩; exact ⟨i, by omega, by omega, rfl⟩
  · rintro ⟨i, h1, h2, rfl⟩; exact ⟨i, by omega, rfl⟩
/-- sides of names: right just if their places are -/
theorem plc_right (hN : N.Nodup) {bs : List Nat} (hb : bs ∈ sidesL N.length) : okF L [] (plc N bs) = true ↔ Right L N (fun p => decide (p ∈ plc N bs)) := by
  obtain ⟨hl, hb1⟩ := mem_sidesL.1 hb
  have hle : ∀ i (h : i < bs.length), bs[i] ≤ 1 := fun i h => hb1 _ (List.getElem_mem h)
  have hdiv : ∀ i (h : i < N.length) (h2 : i < bs.length), (2 * N[i] + bs[i]) / 2 = N[i] := fun i h h2 => by have := hle i h2; omega
  rw [okF_iff]
  constructor
  · rintro ⟨h1, _, h3⟩
    have hsym : ∀ p ∈ plc N bs, ∀ q ∈ plc N bs, L.meet p q = false := by
      intro p hp q hq
      by_cases e : p / 2 = q / 2
      · exact L.irr p q e
      · obtain ⟨i, hi, hi2, rfl⟩ := plc_mem.1 hp
        obtain ⟨j, hj, hj2, rfl⟩ := plc_mem.1 hq
        rw [List.pairwise_iff_getElem] at h3
        have hlen : (plc N bs).length = N.length := by simp [plc, hl]
        have gi : ∀ k (h : k < N.length) (h2 : k < bs.length), (plc N bs)[k]'(by rw [hlen]; exact h) = 2 * N[k] + bs[k] := fun k h h2 => by simp [plc]
        rcases Nat.lt_trichotomy i j with h | h | h
        · have := h3 i j (by rw [hlen]; exact hi) (by rw [hlen]; exact hj) h
          rwa [gi i hi hi2, gi j hj hj2] at this
        · subst h; exact absurd rfl e
        · have := h3 j i (by rw [hlen]; exact hj) (by rw [hlen]; exact hi) h
          rw [gi i hi hi2, gi j hj hj2] at this
          rw [L.sym]; exact this
    refine ⟨fun n hn => ?_, fun p hp => ?_, fun p hp => h1 p (of_decide_eq_true hp), fun p q hp hq => hsym p (of_decide_eq_true hp) q (of_decide_eq_true hq)⟩
    · obtain ⟨i, hi, rfl⟩ := List.mem_iff_getElem.1 hn
      have hi2 : i < bs.length := by omega
      have hb := hle i hi2
      have huniq : ∀ c, c ≤ 1 → ((2 * N[i] + c) ∈ plc N bs ↔ bs[i] = c) := fun c hc => by
        rw [plc_mem]
        constructor
        · rintro ⟨j, hj, hj2, e⟩
          have e2 := hle j hj2
          have : N[i] = N[j] := by omega
          have hij : i = j := (List.getElem_inj hN).1 this
          subst hij; omega
        · intro e; exact ⟨i, hi, hi2, by rw [e]⟩
      have h0 := huniq 0 (by omega)
      have h11 := huniq 1 (by omega)
      rw [Nat.add_zero] at h0
      have : bs[i] = 0 ∨ bs[i] = 1 := by omega
      rcases this with e | e
      · rw [decide_eq_true (h0.2 e), decide_eq_false (fun h => by have := h11.1 h; omega)]; rfl
      · rw [decide_eq_true (h11.2 e), decide_eq_false (fun h => by have := h0.1 h; omega)]; rfl
    · obtain ⟨i, hi, hi2, rfl⟩ := plc_mem.1 (of_decide_eq_true hp)
      rw [hdiv i hi hi2]; exact List.getElem_mem hi
  · intro h
    refine ⟨fun p hp => h.cov p (decide_eq_true hp), fun p _ u hu => absurd hu (by simp), ?_⟩
    rw [List.pairwise_iff_forall_sublist]
    intro p q hs
    have := hs.subset
    exact h.meet p q (decide_eq_true (this (by simp))) (decide_eq_true (this (by simp)))
/-- the sides of a right setting -/
def sidesOf (N : List Nat) (u : Nat → Bool) : List Nat := N.map fun n => if u (2 * n) then 0 else 1
theorem sidesOf_mem (u : Nat → Bool) : sidesOf N u ∈ sidesL N.length := mem_sidesL.2 ⟨by simp [sidesOf], fun b hb => by
  obtain ⟨n, _, rfl⟩ := List.mem_map.1 hb; split <;> omega⟩
theorem sidesOf_plc {u : Nat → Bool} (h : Right L N u) (p : Nat) : p ∈ plc N (sidesOf N u) ↔ u p = true := by
  rw [plc_mem]
  constructor
  · rintro ⟨i, hi, hi2, rfl⟩
    have h1 := h.one _ (List.getElem_mem hi)
    simp only [sidesOf, List.getElem_map]
    cases hu : u (2 * N[i])
    · rw [hu] at h1; simp; simpa using h1.symm
    · simpa using hu
  · intro hu
    have hp := h.only p hu
    obtain ⟨i, hi, e⟩ := List.mem_iff_getElem.1 hp
    refine ⟨i, hi, by simp [sidesOf]; exact hi, ?_⟩
    have h1 := h.one _ hp
    simp only [sidesOf, List.getElem_map]
    rcases two_of p with e2 | e2
    · rw [← e2] at h1
      rw [e, ← e2, hu]; simp
    · rw [← e2, hu] at h1
      rw [e, h1]; simp; omega
theorem can_sides (hN : N.Nodup) {T : List Nat} : Can L N T ↔ ∃ bs ∈ sidesL N.length, okF L [] (plc N bs) = true ∧ ∀ p ∈ T, p ∈ plc N bs := by
  constructor
  · rintro ⟨u, hu, ht⟩
    refine ⟨_, sidesOf_mem u, (plc_right hN (sidesOf_mem u)).2 ?_, fun p hp => (sidesOf_plc hu p).2 (ht p hp)⟩
    have e : (fun p => decide (p ∈ plc N (sidesOf N u))) = u := funext fun p => by
      cases hp : u p
      · exact decide_eq_false fun h => by rw [(sidesOf_plc hu p).1 h] at hp; cases hp
      · exact decide_eq_true ((sidesOf_plc hu p).2 hp)
    rw [e]; exact hu
  · rintro ⟨bs, hb, ho, ht⟩
    exact ⟨_, (plc_right hN hb).1 ho, fun p hp => decide_eq_true (ht p hp)⟩
end Sat
end Go.Proofs.Ytdhdpbnlhnodjaa

/-  The first setting, in lexicographic order; kinds; the brightest names; no program in sight. -/
namespace Go.Proofs.Ytdhdpbnlhnodjaa
namespace Sat
variable {L : Lay} {N : List Nat}

def firstS : Nat → (List Nat → Bool) → Option (List Nat)
  | 0, ok => if ok [] then some [] else none
  | k + 1, ok => match firstS k (fun l => ok (0 :: l)) with
    | some l => some (0 :: l)
    | none => (firstS k fun l => ok (1 :: l)).map (1 :: ·)
theorem head_filter_map {α β : Type} (l : List α) (f : α → β) (ok : β → Bool) : ((l.map f).filter ok).head? = ((l.filter fun x => ok (f x)).head?).map f := by
  rw [List.filter_map, List.head?_map]; rfl
theorem firstS_head : ∀ (k : Nat) (ok : List Nat → Bool), ((sidesL k).filter ok).head? = firstS k ok
  | 0, ok => by rw [sidesL, firstS]; cases h : ok [] <;> simp [h]
  | k + 1, ok => by
    rw [sidesL, firstS, List.filter_append, List.head?_append, head_filter_map, head_filter_map, firstS_head k, firstS_head k]
    cases firstS k (fun l => ok (0 :: l)) <;> rfl
def lexLe : List Nat → List Nat → Prop
  | [], _ => True
  | _ :: _, [] => False
  | a :: xs, b :: bs => a < b ∨ (a = b ∧ lexLe xs bs)
theorem firstS_none : ∀ (k : Nat) (ok : List Nat → Bool), (∀ cs ∈ sidesL k, ok cs = false) → firstS k ok = none := fun k ok h => by
  rw [← firstS_head, filter_false _ h]; rfl
theorem firstS_of : ∀ {k : Nat} {ok : List Nat → Bool} {bs : List Nat}, bs ∈ sidesL k → ok bs = true → (∀ cs ∈ sidesL k, ok cs = true → lexLe bs cs) → firstS k ok = some bs
  | 0, ok, bs, hb, ho, _ => by
    have : bs = [] := by simpa [sidesL] using hb
    subst this
    rw [firstS, if_pos ho]
  | k + 1, ok, bs, hb, ho, hm => by
    obtain ⟨h1, h2⟩ := mem_sidesL.1 hb
    match bs, h1, h2, ho, hm with
    | b :: t, h1, h2, ho, hm =>
      have hb1 := h2 b (by simp)
      have ht : t ∈ sidesL k := mem_sidesL.2 ⟨by simpa using h1, fun c hc => h2 c (by simp [hc])⟩
      have hc : ∀ c, c ≤ 1 → ∀ cs ∈ sidesL k, (c :: cs) ∈ sidesL (k + 1) := fun c hc cs hcs => mem_sidesL.2 ⟨by simp [(mem_sidesL.1 hcs).1], fun d hd => by
        rcases List.mem_cons.1 hd with rfl | hd
        · exact hc
        · exact (mem_sidesL.1 hcs).2 d hd⟩
      have : b = 0 ∨ b = 1 := by omega
      rcases this with rfl | rfl
      · have h3 := firstS_of (ok := fun l => ok (0 :: l)) ht ho fun cs hcs hoc => by
          have := hm (0 :: cs) (hc 0 (by omega) cs hcs) hoc
          simpa [lexLe] using this
        rw [firstS, h3]
      · have h0 := firstS_none k (fun l => ok (0 :: l)) fun cs hcs => by
          cases h : ok (0 :: cs)
          · rfl
          · have := hm (0 :: cs) (hc 0 (by omega) cs hcs) h
            simp [lexLe] at this
        have h3 := firstS_of (ok := fun l => ok (1 :: l)) ht ho fun cs hcs hoc => by
          have := hm (1 :: cs) (hc 1 (by omega) cs hcs) hoc
          simpa [lexLe] using this
        rw [firstS, h0, h3]; rfl
/-- what the sides of the first j names are, in a search for the first setting that uses some places -/
structure Greedy (L : Lay) (N use : List Nat) (j : Nat) (bs used : List Nat) : Prop where
  can : Can L N used
  len : bs.length = j
  sd : ∀ b ∈ bs, b ≤ 1
  sub : ∀ p ∈ use, p ∈ used
  inc : ∀ p ∈ plc (N.take j) bs, p ∈ used
  onl : ∀ p ∈ used, p ∈ use ∨ p ∈ plc (N.take j) bs
  least : ∀ cs ∈ sidesL N.length, okF L [] (plc N cs) = true → (∀ p ∈ use, p ∈ plc N cs) → lexLe bs (cs.take j)
theorem Greedy.start {use : List Nat} (h : Can L N use) : Greedy L N use 0 [] use where
  can := h
  len := rfl
  sd := fun _ h => absurd h (by simp)
  sub := fun _ h => h
  inc := fun p h => absurd h (by simp [plc])
  onl := fun _ h => .inl h
  least := fun _ _ _ _ => trivial
theorem plc_take_snoc {N bs : List Nat} {j b : Nat} (hj : j < N.length) (hb : bs.length = j) (p : Nat) : p ∈ plc (N.take (j + 1)) (bs ++ [b]) ↔ p ∈ plc (N.take j) bs ∨ p = 2 * N[j] + b := by
  have hl : (N.take j).length = bs.length := by rw [List.length_take, hb]; omega
  rw [plc, List.take_succ_eq_append_getElem hj, List.zipWith_append hl, List.mem_append]
  simp [plc]
theorem plc_of_take {N cs : List Nat} {j : Nat} {p : Nat} (h : p ∈ plc (N.take j) (cs.take j)) : p ∈ plc N cs := by
  obtain ⟨i, h1, h2, rfl⟩ := plc_mem.1 h
  rw [List.length_take] at h1 h2
  refine plc_mem.2 ⟨i, by omega, by omega, ?_⟩
  simp
theorem lexLe_snoc : ∀ {xs bs : List Nat} {a b : Nat}, xs.length = bs.length → lexLe xs bs → (xs = bs → a ≤ b) → lexLe (xs ++ [a]) (bs ++ [b])
  | [], [], a, b, _, _, h => by
    have := h rfl
    show a < b ∨ (a = b ∧ True)
    rcases Nat.lt_or_ge a b with h1 | h1
    · exact .inl h1
    · exact .inr ⟨by omega, trivial⟩
  | x :: xs, y :: bs, a, b, hl, h1, h2 => by
    simp only [List.cons_append, lexLe] at h1 ⊢
    rcases h1 with h1 | ⟨rfl, h1⟩
    · exact .inl h1
    · exact .inr ⟨rfl, lexLe_snoc (by simpa using hl) h1 fun e => h2 (by rw [e])⟩
  | [], _ :: _, _, _, h, _, _ => by simp at h
  | _ :: _, [], _, _, h, _, _ => by simp at h
/-- one name more: with the side that is taken all can be set, and no setting takes a lesser one -/
theorem Greedy.next {use bs used : List Nat} {j b : Nat} (g : Greedy L N use j bs used) (hj : j < N.length) (hb : b ≤ 1) {used' : List Nat} (hc : Can L N used') (h1 : ∀ p ∈ used', p ∈ used ∨ p = 2 * N[j] + b) (h2 : ∀ p ∈ used, p ∈ used') (h3 : (2 * N[j] + b) ∈ used')
    (hmin : ∀ cs ∈ sidesL N.length, okF L [] (plc N cs) = true → (∀ p ∈ use, p ∈ plc N cs) → (∀ p ∈ used, p ∈ plc N cs) → ∀ (h : j < cs.length), b ≤ cs[j]) : Greedy L N use (j + 1) (bs ++ [b]) used' where
  can := hc
  len := by simp [g.len]
  sd := fun c hc => by
    rcases List.mem_append.1 hc with h | h
    · exact g.sd c h
    · have : c = b := by simpa using h
      omega
  sub := fun p hp => h2 p (g.sub p hp)
  inc := fun p hp => by
    rcases (plc_take_snoc hj g.len p).1 hp with h | rfl
    · exact h2 p (g.inc p h)
    · exact h3
  onl := fun p hp => by
    rcases h1 p hp with h | rfl
    · rcases g.onl p h with h | h
      · exact .inl h
      · exact .inr ((plc_take_snoc hj g.len p).2 (.inl h))
    · exact .inr ((plc_take_snoc hj g.len _).2 (.inr rfl))
  least := fun cs hcs ho hu => by
    have hl := (mem_sidesL.1 hcs).1
    have hjc : j < cs.length := by omega
    rw [List.take_succ_eq_append_getElem hjc]
    refine lexLe_snoc (by rw [g.len, List.length_take]; omega) (g.least cs hcs ho hu) fun e => ?_
    refine hmin cs hcs ho hu (fun p hp => ?_) hjc
    rcases g.onl p hp with h | h
    · exact hu p h
    · rw [e] at h; exact plc_of_take h
/-- all names -/
theorem Greedy.done (hN : N.Nodup) {use bs used : List Nat} (g : Greedy L N use N.length bs used) : bs ∈ sidesL N.length ∧ okF L [] (plc N bs) = true ∧ (∀ p, p ∈ used ↔ p ∈ plc N bs) ∧ firstS N.length (fun cs => okF L [] (plc N cs) && use.all fun p => (plc N cs).contains p) = some bs := by
  have hb : bs ∈ sidesL N.length := mem_sidesL.2 ⟨g.len, g.sd⟩
  obtain ⟨u, hu, ht⟩ := g.can
  have hinc : ∀ p ∈ plc N bs, p ∈ used := fun p hp => g.inc p (by rw [List.take_length]; exact hp)
  have hsame : ∀ p, u p = true ↔ p ∈ plc N bs := by
    have hone : ∀ p ∈ plc N bs, u p = true := fun p hp => ht p (hinc p hp)
    intro p
    refine ⟨fun hp => ?_, hone p⟩
    obtain ⟨i, hi, e⟩ := List.mem_iff_getElem.1 (hu.only p hp)
    have hi2 : i < bs.length := by rw [g.len]; exact hi
    have hq : (2 * N[i] + bs[i]) ∈ plc N bs := plc_mem.2 ⟨i, hi, hi2, rfl⟩
    have hb1 := g.sd _ (List.getElem_mem hi2)
    have hdiv : (2 * N[i] + bs[i]) / 2 = p / 2 := by rw [← e]; omega
    rcases same_name hdiv with h | h
    · rw [h]; exact hq
    · have h1 := hone _ hq
      have h2 := hu.mate (p := 2 * N[i] + bs[i]) (by rw [hdiv]; exact hu.only p hp)
      rw [← h, hp, h1] at h2; cases h2
  have hur : u = fun p => decide (p ∈ plc N bs) := funext fun p => by
    cases h : u p
    · exact (decide_eq_false fun h2 => by rw [(hsame p).2 h2] at h; cases h).symm
    · exact (decide_eq_true ((hsame p).1 h)).symm
  rw [hur] at hu
  have hok := (plc_right hN hb).2 hu
  have hused : ∀ p, p ∈ used ↔ p ∈ plc N bs := fun p => ⟨fun h => (hsame p).1 (ht p h), hinc p⟩
  refine ⟨hb, hok, hused, firstS_of hb ?_ fun cs hcs hoc => ?_⟩
  · rw [hok, Bool.true_and, List.all_eq_true]
    intro p hp
    rw [List.contains_iff_mem]
    exact (hused p).1 (g.sub p hp)
  · rw [Bool.and_eq_true, List.all_eq_true] at hoc
    have := g.least cs hcs hoc.1 fun p hp => List.contains_iff_mem.1 (hoc.2 p hp)
    rwa [List.take_of_length_le (by rw [(mem_sidesL.1 hcs).1]; exact Nat.le_refl _)] at this
theorem first_none (hN : N.Nodup) {use : List Nat} (h : ¬ Can L N use) : firstS N.length (fun cs => okF L [] (plc N cs) && use.all fun p => (plc N cs).contains p) = none := firstS_none _ _ fun cs hcs => by
  cases h1 : (okF L [] (plc N cs) && use.all fun p => (plc N cs).contains p)
  · rfl
  · rw [Bool.and_eq_true, List.all_eq_true] at h1
    exact absurd ((can_sides hN).2 ⟨cs, hcs, h1.1, fun p hp => List.contains_iff_mem.1 (h1.2 p hp)⟩) h
end Sat
end Go.Proofs.Ytdhdpbnlhnodjaa

/-  Marks of places that are reached; ways; chains: the theory, with no program in sight. -/
namespace Go.Proofs.Ytdhdpbnlhnodjaa
namespace Sat
variable {L : Lay} {N : List Nat}

def at0 (l : List Int) (k : Nat) : Int := l.getD k 0
theorem at0_set (l : List Int) (i : Nat) (x : Int) (j : Nat) (hi : i < l.length) : at0 (l.set i x) j = if j = i then x else at0 l j := by
  by_cases h : j = i
  · subst h; simp [at0, hi]
  · simp [at0, h, Ne.symm h]
/-- by: from where each place was reached first, plus 1; ord: the places that are reached, in the order in which they were -/
structure Mk (L : Lay) (N B : List Nat) (M : Nat) (by_ : List Int) (ord : List Nat) : Prop where
  len : by_.length = M
  mem : ∀ q, q < M → (at0 by_ q ≠ 0 ↔ q ∈ ord)
  lt : ∀ q ∈ ord, q < M
  nd : ord.Nodup
  par : ∀ i (h : i < ord.length), (ord[i] ∈ B ∧ at0 by_ ord[i] = ord[i] + 1) ∨ ∃ j, ∃ (hj : j < i), at0 by_ ord[i] = ((ord[j]'(Nat.lt_trans hj h) : Nat) : Int) + 1 ∧ lead L (ord[j]'(Nat.lt_trans hj h)) ord[i] = true ∧ ord[i] / 2 ∈ N
variable {B : List Nat} {M : Nat} {by_ : List Int} {ord : List Nat}
theorem Mk.start (L : Lay) (N : List Nat) (M : Nat) : Mk L N [] M (List.replicate M 0) [] where
  len := by simp
  mem := fun q hq => by simp [at0, hq]
  lt := fun q h => absurd h (by simp)
  nd := List.nodup_nil
  par := fun i h => absurd h (Nat.not_lt_zero _)
theorem Mk.snoc (h : Mk L N B M by_ ord) {q : Nat} (hq : q < M) (hn : q ∉ ord) {v : Int} (hv : v ≠ 0) (B' : List Nat) (hB : ∀ b ∈ B, b ∈ B')
    (hp : (q ∈ B' ∧ v = q + 1) ∨ ∃ p ∈ ord, v = (p : Int) + 1 ∧ lead L p q = true ∧ q / 2 ∈ N) : Mk L N B' M (by_.set q v) (ord ++ [q]) where
  len := by rw [List.length_set, h.len]
  mem := fun k hk => by
    rw [at0_set _ _ _ _ (by rw [h.len]; exact hq), List.mem_append, List.mem_singleton]
    by_cases e : k = q
    · subst e; simp [hv]
    · rw [if_neg e, h.mem k hk]; simp [e]
  lt := fun k hk => by
    rcases List.mem_append.1 hk with hk | hk
    · exact h.lt k hk
    · have : k = q := by simpa using hk
      omega
  nd := List.nodup_append.2 ⟨h.nd, by simp, fun a ha b hb e => by
    have : b = q := by simpa using hb
    subst e this; exact hn ha⟩
  par := fun i hi => by
    rw [List.length_append, List.length_singleton] at hi
    by_cases e : i < ord.length
    · have hne : ord[i] ≠ q := fun e2 => hn (by rw [← e2]; exact List.getElem_mem e)
      have g : (ord ++ [q])[i]'(by simp; omega) = ord[i] := List.getElem_append_left e
      rw [g, at0_set _ _ _ _ (by rw [h.len]; exact hq), if_neg hne]
      rcases h.par i e with ⟨h1, h2⟩ | ⟨j, hj, h1, h2, h3⟩
      · exact .inl ⟨hB _ h1, h2⟩
      · refine .inr ⟨j, hj, ?_⟩
        rw [List.getElem_append_left (by omega)]
        exact ⟨h1, h2, h3⟩
    · have : i = ord.length := by omega
      subst this
      have g : (ord ++ [q])[ord.length]'(by simp) = q := by simp
      rw [g, at0_set _ _ _ _ (by rw [h.len]; exact hq), if_pos rfl]
      rcases hp with hp | ⟨p, hp, hv2, hl, hq2⟩
      · exact .inl hp
      · obtain ⟨j, hj, rfl⟩ := List.mem_iff_getElem.1 hp
        refine .inr ⟨j, hj, ?_⟩
        rw [List.getElem_append_left hj]
        exact ⟨hv2, hl, hq2⟩
theorem Mk.cl (h : Mk L N B M by_ ord) : ∀ i (hi : i < ord.length), Cl L N B ord[i] := fun i => by
  induction i using Nat.strongRecOn with
  | _ i ih =>
    intro hi
    rcases h.par i hi with ⟨h1, _⟩ | ⟨j, hj, _, h2, h3⟩
    · exact ⟨_, h1, .refl⟩
    · obtain ⟨b, hb, hr⟩ := ih j hj (Nat.lt_trans hj hi)
      exact ⟨b, hb, hr.step h2 h3⟩
theorem Mk.cl_mem (h : Mk L N B M by_ ord) {q : Nat} (hq : q ∈ ord) : Cl L N B q := by
  obtain ⟨i, hi, rfl⟩ := List.mem_iff_getElem.1 hq
  exact h.cl i hi
theorem Mk.full (hB : ∀ b ∈ B, b ∈ ord) (hf : ∀ p ∈ ord, ∀ q, lead L p q = true → q / 2 ∈ N → q ∈ ord) {q : Nat} (hq : Cl L N B q) : q ∈ ord := by
  obtain ⟨b, hb, hr⟩ := hq
  induction hr with
  | refl => exact hB b hb
  | step _ hl hn ih => exact hf _ ih _ hl hn
theorem nodup_le : ∀ (M : Nat) (l : List Nat), l.Nodup → (∀ x ∈ l, x < M) → l.length ≤ M
  | 0, l, _, h => by
    cases l with
    | nil => simp
    | cons x l => exact absurd (h x (by simp)) (Nat.not_lt_zero _)
  | M + 1, l, hn, h => by
    have h1 := nodup_le M (l.erase M) (hn.erase M) fun x hx => by
      have h2 := (hn.mem_erase_iff).1 hx
      have := h x h2.2
      omega
    rw [List.length_erase] at h1
    split at h1 <;> omega
theorem Mk.ord_le (h : Mk L N B M by_ ord) : ord.length ≤ M := nodup_le M ord h.nd h.lt
/-- steps one behind the other, as a list -/
def Path (L : Lay) (N : List Nat) : List Nat → Prop
  | [] => True
  | [_] => True
  | x :: y :: l => lead L x y = true ∧ y / 2 ∈ N ∧ Path L N (y :: l)
theorem Path.append : ∀ {l : List Nat} {x : Nat} {m : List Nat}, Path L N (l ++ [x]) → Path L N (x :: m) → Path L N (l ++ x :: m)
  | [], _, _, _, h => h
  | [_], _, _, h1, h2 => ⟨h1.1, h1.2.1, h2⟩
  | _ :: z :: l, _, _, h1, h2 => ⟨h1.1, h1.2.1, Path.append (l := z :: l) h1.2.2 h2⟩
theorem Path.reach : ∀ {x y : Nat} {l : List Nat}, Path L N (x :: l) → y ∈ x :: l → R L N x y
  | x, y, [], _, h => by have : y = x := by simpa using h
                         subst this; exact .refl
  | x, y, z :: l, h, hy => by
    rcases List.mem_cons.1 hy with rfl | hy
    · exact .refl
    · exact (R.step .refl h.1 h.2.1).trans (Path.reach h.2.2 hy)
/-- on the way back from a place to where it was reached from -/
structure Way (L : Lay) (N : List Nat) (a z : Nat) (ord out : List Nat) (i : Nat) : Prop where
  hi : i < ord.length
  path : Path L N (ord[i] :: out.reverse)
  last : (ord[i] :: out.reverse).getLast? = some z
  len : out.length + i ≤ ord.length - 1
theorem Way.back {a z : Nat} (h : Mk L N [a] M by_ ord) {out : List Nat} {i : Nat} (w : Way L N a z ord out i) (hne : (ord[i]'w.hi) ≠ a) :
    ∃ j, j < i ∧ ∃ (hj : j < ord.length), at0 by_ (ord[i]'w.hi) = ((ord[j] : Nat) : Int) + 1 ∧ Way L N a z ord (out ++ [ord[i]'w.hi]) j := by
  have hi := w.hi
  rcases h.par i hi with ⟨h1, _⟩ | ⟨j, hj, h1, h2, h3⟩
  · exact absurd (by simpa using h1) hne
  · refine ⟨j, hj, Nat.lt_trans hj hi, h1, ⟨Nat.lt_trans hj hi, ?_, ?_, ?_⟩⟩
    · rw [List.reverse_append]
      exact ⟨h2, h3, w.path⟩
    · rw [List.reverse_append]
      have := w.last
      simpa using this
    · have := w.len
      rw [List.length_append, List.length_singleton]; omega
theorem Way.start {ord : List Nat} {a z : Nat} (hz : z ∈ ord) : ∃ i, ∃ (hi : i < ord.length), ord[i] = z ∧ Way L N a z ord [] i := by
  obtain ⟨i, hi, rfl⟩ := List.mem_iff_getElem.1 hz
  exact ⟨i, hi, rfl, ⟨hi, trivial, rfl, by simp; omega⟩⟩
/-- a chain, as the definition says -/
structure IsChain (L : Lay) (N l : List Nat) : Prop where
  lo : 3 ≤ l.length
  hi : l.length ≤ 50
  inN : ∀ p ∈ l, p / 2 ∈ N
  path : Path L N l
  ends : l.getLast? = l.head?
  mate : ∀ p, l.head? = some p → mate p ∈ l
theorem IsChain.none {l : List Nat} (h : IsChain L N l) : ¬ NoChain L N := fun hc => by
  obtain ⟨h1, _, h2, h3, h4, h5⟩ := h
  match l, h1 with
  | p :: t, _ =>
    have hm := h5 p rfl
    have h6 := h3.reach hm
    -- on from the mate to the end
    obtain ⟨s, r, e⟩ := List.append_of_mem hm
    have key : ∀ (s : List Nat) (x : Nat) (r : List Nat), Path L N (s ++ x :: r) → Path L N (x :: r) := by
      intro s x r
      induction s with
      | nil => exact fun h => h
      | cons y s ih =>
        intro h
        refine ih ?_
        cases s with
        | nil => exact h.2.2
        | cons z s => exact h.2.2
    have h7 : Path L N (Sat.mate p :: r) := key s _ r (by rw [← e]; exact h3)
    have h8 : p ∈ Sat.mate p :: r := by
      have h9 : (p :: t).getLast? = some p := h4
      rw [e, List.getLast?_append] at h9
      rw [List.getLast?_cons] at h9
      have h10 : (Sat.mate p :: r).getLast? = some p := by rw [List.getLast?_cons]; simpa using h9
      exact List.mem_of_getLast? h10
    exact hc.place (h2 p (by simp)) ⟨h6, h7.reach h8⟩
/-- there and back -/
theorem chain_of {p : Nat} {there back : List Nat} (hp : p / 2 ∈ N) (h1 : Path L N (p :: there)) (h2 : (p :: there).getLast? = some (mate p)) (h3 : Path L N (mate p :: back)) (h4 : (mate p :: back).getLast? = some p)
    (l1 : there.length ≤ 19) (l2 : back.length ≤ 19) : IsChain L N (p :: there ++ back) := by
  have hne := mate_ne p
  have t0 : there ≠ [] := fun e => by subst e; simp at h2; exact hne h2.symm
  have b0 : back ≠ [] := fun e => by subst e; simp at h4; exact hne h4
  obtain ⟨s, e⟩ : ∃ s, p :: there = s ++ [mate p] := by
    obtain ⟨s, e⟩ := List.getLast?_eq_some_iff.1 h2
    exact ⟨s, e⟩
  have hpath : Path L N (p :: there ++ back) := by
    rw [e, List.append_assoc]
    exact Path.append (by rw [← e]; exact h1) h3
  have hlast : (p :: there ++ back).getLast? = some p := by
    rw [List.getLast?_append]
    have : back.getLast? = some p := by
      rw [List.getLast?_cons] at h4
      cases hb : back.getLast? with
      | none => exact absurd (List.getLast?_eq_none_iff.1 hb) b0
      | some x => rw [hb] at h4; simpa using h4
    rw [this]; rfl
  have hall : ∀ (l : List Nat), (∀ x, l.head? = some x → x / 2 ∈ N) → Path L N l → ∀ q ∈ l, q / 2 ∈ N := by
    intro l
    induction l with
    | nil => intro _ _ q hq; cases hq
    | cons x l ih =>
      intro hh hp q hq
      rcases List.mem_cons.1 hq with rfl | hq
      · exact hh _ rfl
      · cases l with
        | nil => cases hq
        | cons y l => exact ih (fun z hz => by have : y = z := by simpa using hz
                                               subst this; exact hp.2.1) hp.2.2 q hq
  have hlt : 1 ≤ there.length := List.length_pos_iff.2 t0
  have hlb : 1 ≤ back.length := List.length_pos_iff.2 b0
  have hin : ∀ x, (p :: there ++ back).head? = some x → x / 2 ∈ N := fun x hx => by
    have : p = x := by simpa using hx
    subst this; exact hp
  refine ⟨by simp; omega, by simp; omega, hall _ hin hpath, hpath, by rw [hlast]; rfl, fun q hq => ?_⟩
  have : p = q := by simpa using hq
  subst this
  rw [e]; simp
end Sat
end Go.Proofs.Ytdhdpbnlhnodjaa

/-  Settings as lists of numbers; all of them by bits; how many names can be set; no program in sight. -/
namespace Go.Proofs.Ytdhdpbnlhnodjaa
namespace Sat
variable {L : Lay} {N : List Nat}

def bitsL (k bits : Nat) : List Nat := (List.range k).map fun i => bits / 2 ^ (k - 1 - i) % 2
theorem bitsL_cons (k bits : Nat) : bitsL (k + 1) bits = (bits / 2 ^ k % 2) :: bitsL k bits := by
  rw [bitsL, List.range_succ_eq_map, List.map_cons, List.map_map, bitsL]
  congr 1
  refine List.map_congr_left fun i hi => ?_
  show bits / 2 ^ (k + 1 - 1 - (i + 1)) % 2 = _
  rw [show k + 1 - 1 - (i + 1) = k - 1 - i by omega]
theorem bitsL_high (k b : Nat) : bitsL k (2 ^ k + b) = bitsL k b := by
  rw [bitsL, bitsL]
  refine List.map_congr_left fun i hi => ?_
  have hi := List.mem_range.1 hi
  have e : 2 ^ k = 2 ^ (k - 1 - i) * (2 * 2 ^ i) := by
    rw [← Nat.pow_succ', ← Nat.pow_add]; congr 1; omega
  rw [e, Nat.mul_add_div (Nat.two_pow_pos _)]
  omega
theorem range_double (n : Nat) : List.range (n + n) = List.range n ++ (List.range n).map (n + ·) := by
  rw [List.range_add]
theorem bits_sides : ∀ k, (List.range (2 ^ k)).map (bitsL k) = sidesL k
  | 0 => rfl
  | k + 1 => by
    rw [Nat.pow_succ, Nat.mul_two, range_double, List.map_append, List.map_map, sidesL, ← bits_sides k, List.map_map, List.map_map]
    congr 1
    · refine List.map_congr_left fun b hb => ?_
      have hb := List.mem_range.1 hb
      show bitsL (k + 1) b = 0 :: bitsL k b
      rw [bitsL_cons, Nat.div_eq_of_lt hb]
    · refine List.map_congr_left fun b hb => ?_
      have hb := List.mem_range.1 hb
      show bitsL (k + 1) (2 ^ k + b) = 1 :: bitsL k b
      rw [bitsL_cons, bitsL_high, Nat.add_div_left _ (Nat.two_pow_pos _), Nat.div_eq_of_lt hb]
/-- a setting as a list: the side of each name, or -1 -/
def setL (n : Nat) (ps : List Nat) : List Int := (List.range n).map fun i => if 2 * i ∈ ps then 0 else if 2 * i + 1 ∈ ps then 1 else -1
theorem setL_len (n : Nat) (ps : List Nat) : (setL n ps).length = n := by simp [setL]
theorem at0_setL {n : Nat} (ps : List Nat) {i : Nat} (hi : i < n) : at0 (setL n ps) i = if 2 * i ∈ ps then 0 else if 2 * i + 1 ∈ ps then 1 else -1 := by simp [at0, setL, hi]
theorem setL_nil (n : Nat) : setL n [] = List.replicate n (-1) := by
  apply List.ext_getElem
  · simp [setL]
  · intro i h1 h2; simp [setL]
/-- no two places of one name -/
def One (ps : List Nat) : Prop := ∀ p ∈ ps, mate p ∉ ps
theorem setL_side {n : Nat} {ps : List Nat} (h1 : One ps) {p : Nat} (hp : p / 2 < n) : at0 (setL n ps) (p / 2) = ((p % 2 : Nat) : Int) ↔ p ∈ ps := by
  rw [at0_setL ps hp]
  rcases two_of p with e | e
  · rw [← e]
    have e2 : p % 2 = 0 := by omega
    by_cases hm : p ∈ ps
    · rw [if_pos hm, e2]; simp [hm]
    · rw [if_neg hm, e2]
      split <;> simp [hm]
  · rw [← e]
    have e2 : p % 2 = 1 := by omega
    have e3 : mate p = 2 * (p / 2) := by rw [e, mate_odd]; omega
    by_cases hm : p ∈ ps
    · have := h1 p hm
      rw [e3] at this
      rw [if_neg this, if_pos hm, e2]; simp [hm]
    · rw [if_neg hm, e2]
      split <;> simp [hm]
theorem setL_add {n : Nat} {ps : List Nat} {p : Nat} (hp : p / 2 < n) (h1 : p ∉ ps) (h2 : mate p ∉ ps) : (setL n ps).set (p / 2) ((p % 2 : Nat) : Int) = setL n (ps ++ [p]) := by
  apply List.ext_getElem
  · simp [setL]
  · intro i hi1 hi2
    rw [List.length_set, setL_len] at hi1
    rw [List.getElem_set]
    simp only [setL, List.getElem_map, List.getElem_range, List.mem_append, List.mem_singleton]
    by_cases e : p / 2 = i
    · rw [if_pos e]
      rcases two_of p with e2 | e2
      · rw [e] at e2
        rw [mate, if_pos (by omega)] at h2
        subst e2
        simp
      · rw [e] at e2
        rw [mate, if_neg (by omega)] at h2
        subst e2
        have : ¬ (2 * i + 1 - 1) ∈ ps := h2
        rw [show 2 * i + 1 - 1 = 2 * i by omega] at this
        simp [this]
    · rw [if_neg e]
      have e1 : ¬ 2 * i = p := fun h => e (by omega)
      have e2 : ¬ 2 * i + 1 = p := fun h => e (by omega)
      simp [e1, e2]
/-- right, by the definition: no covered place, no two that meet -/
def rightP (ms : List (Nat × Nat)) (cv : List Nat) (ps : List Nat) : Bool := cv.all (fun c => !decide (c ∈ ps)) && ms.all fun m => !(decide (m.1 ∈ ps) && decide (m.2 ∈ ps))
def meetP (ms : List (Nat × Nat)) (a b : Nat) : Bool := ms.any fun m => (m.1 == a && m.2 == b) || (m.1 == b && m.2 == a)
def layS (ms : List (Nat × Nat)) (cv : List Nat) (h : ∀ m ∈ ms, m.1 / 2 ≠ m.2 / 2) : Lay where
  meet := meetP ms
  sym a b := by
    unfold meetP
    congr 1
    funext m
    exact Bool.or_comm _ _
  irr a b e := by
    unfold meetP
    rw [List.any_eq_false]
    intro m hm hc
    have := h m hm
    simp only [Bool.or_eq_true, Bool.and_eq_true, beq_iff_eq] at hc
    rcases hc with ⟨h1, h2⟩ | ⟨h1, h2⟩ <;> omega
  cov p := cv.contains p
theorem okF_rightP {ms : List (Nat × Nat)} {cv : List Nat} (h : ∀ m ∈ ms, m.1 / 2 ≠ m.2 / 2) (ps : List Nat) : okF (layS ms cv h) [] ps = rightP ms cv ps := by
  rw [Bool.eq_iff_iff, okF_iff, rightP, Bool.and_eq_true, List.all_eq_true, List.all_eq_true]
  simp only [Bool.not_eq_true', decide_eq_false_iff_not, Bool.and_eq_false_iff]
  constructor
  · rintro ⟨h1, _, h3⟩
    refine ⟨fun c hc hp => ?_, fun m hm => ?_⟩
    · have := h1 c hp
      have h4 : cv.contains c = false := this
      rw [List.contains_iff_mem.2 hc] at h4; cases h4
    · by_cases ha : m.1 ∈ ps
      · by_cases hb : m.2 ∈ ps
        · exfalso
          have hmeet : meetP ms m.1 m.2 = true := by unfold meetP; exact List.any_eq_true.2 ⟨m, hm, by simp⟩
          have hmeet2 : meetP ms m.2 m.1 = true := by unfold meetP; exact List.any_eq_true.2 ⟨m, hm, by simp⟩
          rw [List.pairwise_iff_getElem] at h3
          obtain ⟨i, hi, e1⟩ := List.mem_iff_getElem.1 ha
          obtain ⟨j, hj, e2⟩ := List.mem_iff_getElem.1 hb
          rcases Nat.lt_trichotomy i j with hij | hij | hij
          · have h5 : meetP ms ps[i] ps[j] = false := h3 i j hi hj hij
            rw [e1, e2, hmeet] at h5; cases h5
          · subst hij; exact h m hm (by rw [← e1, ← e2])
          · have h5 : meetP ms ps[j] ps[i] = false := h3 j i hj hi hij
            rw [e1, e2, hmeet2] at h5; cases h5
        · exact .inr hb
      · exact .inl ha
  · rintro ⟨h1, h2⟩
    refine ⟨fun p hp => ?_, fun p _ u hu => absurd hu (by simp), ?_⟩
    · show cv.contains p = false
      cases hc : cv.contains p
      · rfl
      · exact absurd hp (h1 p (List.contains_iff_mem.1 hc))
    · rw [List.pairwise_iff_forall_sublist]
      intro p q hs
      have hp : p ∈ ps := hs.subset (by simp)
      have hq : q ∈ ps := hs.subset (by simp)
      show meetP ms p q = false
      unfold meetP
      rw [List.any_eq_false]
      intro m hm hc
      simp only [Bool.or_eq_true, Bool.and_eq_true, beq_iff_eq] at hc
      rcases hc with ⟨rfl, rfl⟩ | ⟨rfl, rfl⟩
      · rcases h2 m hm with h | h
        · exact h hp
        · exact h hq
      · rcases h2 m hm with h | h
        · exact h hq
        · exact h hp
theorem plc_one (hN : N.Nodup) {bs : List Nat} (hb : ∀ b ∈ bs, b ≤ 1) : One (plc N bs) := fun p hp hm => by
  obtain ⟨i, hi, hi2, rfl⟩ := plc_mem.1 hp
  obtain ⟨j, hj, hj2, e⟩ := plc_mem.1 hm
  have b1 := hb _ (List.getElem_mem hi2)
  have b2 := hb _ (List.getElem_mem hj2)
  have e3 : (mate (2 * N[i] + bs[i])) / 2 = N[i] := by rw [mate_div]; omega
  rw [e] at e3
  have : N[j] = N[i] := by omega
  have hij : j = i := (List.getElem_inj hN).1 this
  subst hij
  exact mate_ne _ e
end Sat
end Go.Proofs.Ytdhdpbnlhnodjaa

/-  How many names can be set; the brightest names; no program in sight. -/
namespace Go.Proofs.Ytdhdpbnlhnodjaa
namespace Sat
variable {L : Lay} {N : List Nat}

/-- all partial settings of some names, by their places -/
def triF : List Nat → List (List Nat)
  | [] => [[]]
  | n :: ns => triF ns ++ ((triF ns).map (2 * n :: ·) ++ (triF ns).map ((2 * n + 1) :: ·))
/-- the greatest number of names, name by name -/
def mostF (L : Lay) : List Nat → List Nat → Nat
  | [], _ => 0
  | n :: ns, used => max (max (mostF L ns used) (if free L (2 * n) used then 1 + mostF L ns (used ++ [2 * n]) else 0)) (if free L (2 * n + 1) used then 1 + mostF L ns (used ++ [2 * n + 1]) else 0)
theorem mostF_ge (L : Lay) : ∀ (ns used ps : List Nat), ps ∈ triF ns → okF L used ps = true → ps.length ≤ mostF L ns used
  | [], used, ps, h, _ => by
    have : ps = [] := by simpa [triF] using h
    subst this; exact Nat.zero_le _
  | n :: ns, used, ps, h, ho => by
    rw [triF, List.mem_append, List.mem_append, List.mem_map, List.mem_map] at h
    rw [mostF]
    rcases h with h | ⟨qs, h, rfl⟩ | ⟨qs, h, rfl⟩
    · have := mostF_ge L ns used ps h ho
      omega
    · rw [okF, Bool.and_eq_true] at ho
      have := mostF_ge L ns _ qs h ho.2
      rw [if_pos ho.1, List.length_cons]; omega
    · rw [okF, Bool.and_eq_true] at ho
      have := mostF_ge L ns _ qs h ho.2
      rw [if_pos ho.1, List.length_cons]; omega
theorem max3 (A B C : Nat) (p q : Bool) : max (max A (if p then B else 0)) (if q then C else 0) = A ∨ (p = true ∧ max (max A (if p then B else 0)) (if q then C else 0) = B) ∨ (q = true ∧ max (max A (if p then B else 0)) (if q then C else 0) = C) := by
  cases p <;> cases q <;> simp only [if_true, Bool.false_eq_true, if_false, Nat.max_def, false_and, true_and, false_or, or_false] <;> (repeat' split) <;> omega
theorem mostF_ex (L : Lay) : ∀ (ns used : List Nat), ∃ ps ∈ triF ns, okF L used ps = true ∧ ps.length = mostF L ns used
  | [], used => ⟨[], by simp [triF], rfl, rfl⟩
  | n :: ns, used => by
    have h1 := mostF_ex L ns used
    have h2 := mostF_ex L ns (used ++ [2 * n])
    have h3 := mostF_ex L ns (used ++ [2 * n + 1])
    have key : ∀ m, (m = mostF L ns used ∨ (free L (2 * n) used = true ∧ m = 1 + mostF L ns (used ++ [2 * n])) ∨ (free L (2 * n + 1) used = true ∧ m = 1 + mostF L ns (used ++ [2 * n + 1]))) → ∃ ps ∈ triF (n :: ns), okF L used ps = true ∧ ps.length = m := by
      rintro m (rfl | ⟨hf, rfl⟩ | ⟨hf, rfl⟩)
      · obtain ⟨ps, a, b, c⟩ := h1
        exact ⟨ps, by rw [triF]; simp [a], b, c⟩
      · obtain ⟨ps, a, b, c⟩ := h2
        exact ⟨2 * n :: ps, by rw [triF]; simp [a], by rw [okF, hf, b]; rfl, by rw [List.length_cons, c]; omega⟩
      · obtain ⟨ps, a, b, c⟩ := h3
        exact ⟨(2 * n + 1) :: ps, by rw [triF]; simp [a], by rw [okF, hf, b]; rfl, by rw [List.length_cons, c]; omega⟩
    apply key
    rw [mostF]
    exact max3 _ _ _ _ _
/-- the greatest number of names that some right setting sets -/
def IsMost (L : Lay) (n m : Nat) : Prop := (∃ ps ∈ triF (List.range n), okF L [] ps = true ∧ ps.length = m) ∧ ∀ ps ∈ triF (List.range n), okF L [] ps = true → ps.length ≤ m
theorem IsMost.unique {n m k : Nat} (h1 : IsMost L n m) (h2 : IsMost L n k) : m = k := by
  obtain ⟨⟨p, a, b, rfl⟩, c⟩ := h1
  obtain ⟨⟨q, d, e, rfl⟩, f⟩ := h2
  exact Nat.le_antisymm (f p a b) (c q d e)
theorem mostF_is (L : Lay) (n : Nat) : IsMost L n (mostF L (List.range n) []) := ⟨mostF_ex L _ _, fun ps h ho => mostF_ge L _ _ ps h ho⟩
theorem triF_len : ∀ (ns ps : List Nat), ps ∈ triF ns → ps.length ≤ ns.length
  | [], ps, h => by
    have : ps = [] := by simpa [triF] using h
    subst this; simp
  | n :: ns, ps, h => by
    rw [triF, List.mem_append, List.mem_append, List.mem_map, List.mem_map] at h
    rcases h with h | ⟨qs, h, rfl⟩ | ⟨qs, h, rfl⟩
    · have := triF_len ns ps h; simp; omega
    · have := triF_len ns qs h; simp; omega
    · have := triF_len ns qs h; simp; omega
theorem triF_snoc : ∀ (ns : List Nat) (n : Nat) (ps : List Nat), ps ∈ triF (ns ++ [n]) ↔ ∃ qs ∈ triF ns, ps = qs ∨ ps = qs ++ [2 * n] ∨ ps = qs ++ [2 * n + 1]
  | [], n, ps => by
    simp [triF]
  | m :: ns, n, ps => by
    simp only [List.cons_append, triF, List.mem_append, List.mem_map, triF_snoc ns n]
    constructor
    · rintro (⟨qs, h, h2⟩ | ⟨t, ⟨qs, h, h2⟩, rfl⟩ | ⟨t, ⟨qs, h, h2⟩, rfl⟩)
      · exact ⟨qs, .inl h, h2⟩
      · refine ⟨2 * m :: qs, .inr (.inl ⟨qs, h, rfl⟩), ?_⟩
        rcases h2 with rfl | rfl | rfl <;> simp
      · refine ⟨(2 * m + 1) :: qs, .inr (.inr ⟨qs, h, rfl⟩), ?_⟩
        rcases h2 with rfl | rfl | rfl <;> simp
    · rintro ⟨qs, (h | ⟨t, h, rfl⟩ | ⟨t, h, rfl⟩), h2⟩
      · exact .inl ⟨qs, h, h2⟩
      · right; left
        rcases h2 with rfl | rfl | rfl
        · exact ⟨t, ⟨t, h, .inl rfl⟩, rfl⟩
        · exact ⟨t ++ [2 * n], ⟨t, h, .inr (.inl rfl)⟩, rfl⟩
        · exact ⟨t ++ [2 * n + 1], ⟨t, h, .inr (.inr rfl)⟩, rfl⟩
      · right; right
        rcases h2 with rfl | rfl | rfl
        · exact ⟨t, ⟨t, h, .inl rfl⟩, rfl⟩
        · exact ⟨t ++ [2 * n], ⟨t, h, .inr (.inl rfl)⟩, rfl⟩
        · exact ⟨t ++ [2 * n + 1], ⟨t, h, .inr (.inr rfl)⟩, rfl⟩
/-- the brightest of the first k names -/
noncomputable def brightF (L : Lay) : Nat → List Nat
  | 0 => []
  | k + 1 => open Classical in if Can L (brightF L k ++ [k]) [] then brightF L k ++ [k] else brightF L k
theorem brightF_lt (L : Lay) : ∀ k, ∀ x ∈ brightF L k, x < k
  | 0, x, h => absurd h (by simp [brightF])
  | k + 1, x, h => by
    rw [brightF] at h
    split at h
    · rcases List.mem_append.1 h with h | h
      · have := brightF_lt L k x h; omega
      · have : x = k := by simpa using h
        omega
    · have := brightF_lt L k x h; omega
theorem brightF_sorted (L : Lay) : ∀ k, (brightF L k).Pairwise (· < ·)
  | 0 => by simp [brightF]
  | k + 1 => by
    rw [brightF]
    split
    · rw [List.pairwise_append]
      exact ⟨brightF_sorted L k, by simp, fun a ha b hb => by
        have : b = k := by simpa using hb
        subst this; exact brightF_lt L _ a ha⟩
    · exact brightF_sorted L k
theorem brightF_can (L : Lay) : ∀ k, Can L (brightF L k) []
  | 0 => can_nil.2 fun n hn => absurd hn (by simp [brightF])
  | k + 1 => by
    rw [brightF]
    split
    · assumption
    · exact brightF_can L k
theorem brightF_take (L : Lay) {k m : Nat} (h : k ≤ m) : (brightF L m).filter (fun x => decide (x < k)) = brightF L k := by
  induction m with
  | zero =>
    obtain rfl : k = 0 := by omega
    rfl
  | succ m ih =>
    by_cases e : k = m + 1
    · subst e
      rw [List.filter_eq_self]
      intro x hx; exact decide_eq_true (brightF_lt L _ x hx)
    · have hk : k ≤ m := by omega
      rw [brightF]
      split
      · rw [List.filter_append, ih hk]
        have : ([m].filter fun x => decide (x < k)) = [] := by simp; omega
        rw [this, List.append_nil]
      · exact ih hk
theorem brightF_mem (L : Lay) {k m : Nat} (h : k < m) : k ∈ brightF L m ↔ Can L (brightF L k ++ [k]) [] := by
  have h1 := brightF_take L (k := k + 1) (m := m) (by omega)
  have h2 : k ∈ brightF L m ↔ k ∈ brightF L (k + 1) := by
    rw [← h1, List.mem_filter]
    simp
  rw [h2, brightF]
  split
  · rename_i hc; simp [hc]
  · rename_i hc
    exact ⟨fun hk => absurd (brightF_lt L k k hk) (Nat.lt_irrefl _), fun h => absurd h hc⟩
end Sat
end Go.Proofs.Ytdhdpbnlhnodjaa

/-  Counts and greatest numbers: of names in another order, of sheets turned, and beside each other; fewer names, more meetings; no program in sight. -/
namespace Go.Proofs.Ytdhdpbnlhnodjaa
namespace Sat
variable {L L' : Lay} {N : List Nat}

theorem free_snoc (L : Lay) (p q : Nat) (used : List Nat) : free L p (used ++ [q]) = (free L p used && !L.meet p q) := by
  rw [free, free, List.any_append]
  cases L.cov p <;> cases (used.any fun u => L.meet p u) <;> simp
theorem free_mem {used used' : List Nat} (h : ∀ q, q ∈ used ↔ q ∈ used') (p : Nat) : free L p used = free L p used' := by
  rw [free, free]
  congr 2
  rw [Bool.eq_iff_iff, List.any_eq_true, List.any_eq_true]
  exact ⟨fun ⟨x, h1, h2⟩ => ⟨x, (h x).1 h1, h2⟩, fun ⟨x, h1, h2⟩ => ⟨x, (h x).2 h1, h2⟩⟩
theorem cntF_mem : ∀ (N : List Nat) {used used' : List Nat}, (∀ q, q ∈ used ↔ q ∈ used') → cntF L N used = cntF L N used'
  | [], _, _, _ => rfl
  | n :: ns, used, used', h => by
    have hs : ∀ p q, q ∈ used ++ [p] ↔ q ∈ used' ++ [p] := fun p q => by simp [h q]
    rw [cntF, cntF, free_mem h, free_mem h, cntF_mem ns (hs (2 * n)), cntF_mem ns (hs (2 * n + 1))]
theorem mostF_mem : ∀ (N : List Nat) {used used' : List Nat}, (∀ q, q ∈ used ↔ q ∈ used') → mostF L N used = mostF L N used'
  | [], _, _, _ => rfl
  | n :: ns, used, used', h => by
    have hs : ∀ p q, q ∈ used ++ [p] ↔ q ∈ used' ++ [p] := fun p q => by simp [h q]
    rw [mostF, mostF, free_mem h, free_mem h, mostF_mem ns h, mostF_mem ns (hs (2 * n)), mostF_mem ns (hs (2 * n + 1))]
def addIf (b : Bool) (x : Nat) : Nat := if b then x else 0
theorem cntF_cons (n : Nat) (ns used : List Nat) : cntF L (n :: ns) used = addIf (free L (2 * n) used) (cntF L ns (used ++ [2 * n])) + addIf (free L (2 * n + 1) used) (cntF L ns (used ++ [2 * n + 1])) := rfl
theorem mostF_cons (n : Nat) (ns used : List Nat) : mostF L (n :: ns) used = max (max (mostF L ns used) (addIf (free L (2 * n) used) (1 + mostF L ns (used ++ [2 * n])))) (addIf (free L (2 * n + 1) used) (1 + mostF L ns (used ++ [2 * n + 1]))) := rfl
theorem two_swap (used : List Nat) (a b : Nat) : ∀ q, q ∈ used ++ [a] ++ [b] ↔ q ∈ used ++ [b] ++ [a] := fun q => by
  simp only [List.mem_append, List.mem_singleton]
  exact ⟨fun h => by rcases h with (h | h) | h <;> simp [h], fun h => by rcases h with (h | h) | h <;> simp [h]⟩
theorem addIf_addIf (a b : Bool) (x : Nat) : addIf a (addIf b x) = addIf (a && b) x := by cases a <;> cases b <;> rfl
theorem cnt_pair (p q : Nat) (ns used : List Nat) : addIf (free L p used) (addIf (free L q (used ++ [p])) (cntF L ns (used ++ [p] ++ [q]))) = addIf (free L q used) (addIf (free L p (used ++ [q])) (cntF L ns (used ++ [q] ++ [p]))) := by
  rw [addIf_addIf, addIf_addIf, free_snoc, free_snoc, cntF_mem ns (two_swap used p q), L.sym q p]
  congr 1
  cases free L p used <;> cases free L q used <;> simp
theorem addIf_add (b : Bool) (x y : Nat) : addIf b (x + y) = addIf b x + addIf b y := by cases b <;> simp [addIf]
theorem cntF_swap (n m : Nat) (ns used : List Nat) : cntF L (n :: m :: ns) used = cntF L (m :: n :: ns) used := by
  simp only [cntF_cons, addIf_add]
  rw [cnt_pair (2 * n) (2 * m), cnt_pair (2 * n) (2 * m + 1), cnt_pair (2 * n + 1) (2 * m), cnt_pair (2 * n + 1) (2 * m + 1)]
  omega
theorem cntF_perm {N M : List Nat} (h : N.Perm M) : ∀ used, cntF L N used = cntF L M used := by
  induction h with
  | nil => exact fun _ => rfl
  | cons x _ ih => exact fun used => by rw [cntF_cons, cntF_cons, ih, ih]
  | swap x y l => exact fun used => cntF_swap y x l used
  | trans _ _ ih1 ih2 => exact fun used => (ih1 used).trans (ih2 used)
theorem okF_swap (used : List Nat) (p q : Nat) (ps : List Nat) (h : okF L used (p :: q :: ps) = true) : okF L used (q :: p :: ps) = true := by
  rw [okF_iff] at h ⊢
  obtain ⟨h1, h2, h3⟩ := h
  rw [List.pairwise_cons, List.pairwise_cons] at h3
  obtain ⟨h4, h5, h6⟩ := h3
  have hm : ∀ x, x ∈ q :: p :: ps → x ∈ p :: q :: ps := fun x hx => by
    simp only [List.mem_cons] at hx ⊢
    rcases hx with h | h | h
    · exact .inr (.inl h)
    · exact .inl h
    · exact .inr (.inr h)
  refine ⟨fun x hx => h1 x (hm x hx), fun x hx => h2 x (hm x hx), List.pairwise_cons.2 ⟨fun x hx => ?_, List.pairwise_cons.2 ⟨fun x hx => h4 x (by simp [hx]), h6⟩⟩⟩
  rcases List.mem_cons.1 hx with rfl | hx
  · rw [L.sym]; exact h4 q (by simp)
  · exact h5 x hx
theorem mem_tri_cons {n : Nat} {ns ps : List Nat} : ps ∈ triF (n :: ns) ↔ ps ∈ triF ns ∨ ∃ c, c ≤ 1 ∧ ∃ qs ∈ triF ns, ps = (2 * n + c) :: qs := by
  rw [triF, List.mem_append, List.mem_append, List.mem_map, List.mem_map]
  constructor
  · rintro (h | ⟨qs, h, rfl⟩ | ⟨qs, h, rfl⟩)
    · exact .inl h
    · exact .inr ⟨0, by omega, qs, h, rfl⟩
    · exact .inr ⟨1, by omega, qs, h, rfl⟩
  · rintro (h | ⟨c, hc, qs, h, rfl⟩)
    · exact .inl h
    · have : c = 0 ∨ c = 1 := by omega
      rcases this with rfl | rfl
      · exact .inr (.inl ⟨qs, h, rfl⟩)
      · exact .inr (.inr ⟨qs, h, rfl⟩)
theorem tri_swap {n m : Nat} {ns used ps : List Nat} (h : ps ∈ triF (n :: m :: ns)) (ho : okF L used ps = true) : ∃ qs ∈ triF (m :: n :: ns), okF L used qs = true ∧ qs.length = ps.length := by
  rcases mem_tri_cons.1 h with h1 | ⟨c, hc, qs, h1, rfl⟩
  · rcases mem_tri_cons.1 h1 with h2 | ⟨d, hd, rs, h2, rfl⟩
    · exact ⟨ps, mem_tri_cons.2 (.inl (mem_tri_cons.2 (.inl h2))), ho, rfl⟩
    · exact ⟨_, mem_tri_cons.2 (.inr ⟨d, hd, rs, mem_tri_cons.2 (.inl h2), rfl⟩), ho, rfl⟩
  · rcases mem_tri_cons.1 h1 with h2 | ⟨d, hd, rs, h2, rfl⟩
    · exact ⟨_, mem_tri_cons.2 (.inl (mem_tri_cons.2 (.inr ⟨c, hc, qs, h2, rfl⟩))), ho, rfl⟩
    · exact ⟨_, mem_tri_cons.2 (.inr ⟨d, hd, _, mem_tri_cons.2 (.inr ⟨c, hc, rs, h2, rfl⟩), rfl⟩), okF_swap _ _ _ _ ho, rfl⟩
theorem mostF_swap (n m : Nat) (ns used : List Nat) : mostF L (n :: m :: ns) used = mostF L (m :: n :: ns) used := by
  have key : ∀ n m, mostF L (n :: m :: ns) used ≤ mostF L (m :: n :: ns) used := fun n m => by
    obtain ⟨ps, h, ho, e⟩ := mostF_ex L (n :: m :: ns) used
    obtain ⟨qs, k, ko, f⟩ := tri_swap h ho
    rw [← e, ← f]
    exact mostF_ge L _ _ qs k ko
  exact Nat.le_antisymm (key n m) (key m n)
theorem mostF_perm {N M : List Nat} (h : N.Perm M) : ∀ used, mostF L N used = mostF L M used := by
  induction h with
  | nil => exact fun _ => rfl
  | cons x _ ih => exact fun used => by rw [mostF_cons, mostF_cons, ih, ih, ih]
  | swap x y l => exact fun used => mostF_swap y x l used
  | trans _ _ ih1 ih2 => exact fun used => (ih1 used).trans (ih2 used)
/-- a sheet whose places are named otherwise: each name keeps both its sides, perhaps exchanged -/
structure Turn (L L' : Lay) (N : List Nat) (f : Nat → Nat) (g : Nat → Nat) : Prop where
  side : ∀ n ∈ N, (f (2 * n) = 2 * g n ∧ f (2 * n + 1) = 2 * g n + 1) ∨ (f (2 * n) = 2 * g n + 1 ∧ f (2 * n + 1) = 2 * g n)
  meet : ∀ p q, p / 2 ∈ N → q / 2 ∈ N → L'.meet (f p) (f q) = L.meet p q
  cov : ∀ p, p / 2 ∈ N → L'.cov (f p) = L.cov p
theorem Turn.free {f g : Nat → Nat} (t : Turn L L' N f g) {p : Nat} (hp : p / 2 ∈ N) {used : List Nat} (hu : ∀ q ∈ used, q / 2 ∈ N) : free L' (f p) (used.map f) = free L p used := by
  rw [Sat.free, Sat.free, t.cov p hp]
  congr 2
  rw [Bool.eq_iff_iff, List.any_eq_true, List.any_eq_true]
  constructor
  · rintro ⟨x, hx, h⟩
    obtain ⟨q, hq, rfl⟩ := List.mem_map.1 hx
    exact ⟨q, hq, by rw [← t.meet p q hp (hu q hq)]; exact h⟩
  · rintro ⟨q, hq, h⟩
    exact ⟨f q, List.mem_map.2 ⟨q, hq, rfl⟩, by rw [t.meet p q hp (hu q hq)]; exact h⟩
theorem half (n : Nat) : (2 * n) / 2 = n ∧ (2 * n + 1) / 2 = n := by omega
theorem Turn.cnt {f g : Nat → Nat} (t : Turn L L' N f g) : ∀ {M used : List Nat}, (∀ n ∈ M, n ∈ N) → (∀ q ∈ used, q / 2 ∈ N) → cntF L' (M.map g) (used.map f) = cntF L M used
  | [], _, _, _ => rfl
  | n :: M, used, hM, hu => by
    have hn := hM n (by simp)
    have hM' : ∀ k ∈ M, k ∈ N := fun k hk => hM k (by simp [hk])
    have h0 : (2 * n) / 2 ∈ N := by rw [(half n).1]; exact hn
    have h1 : (2 * n + 1) / 2 ∈ N := by rw [(half n).2]; exact hn
    have hs : ∀ p, p / 2 ∈ N → ∀ q ∈ used ++ [p], q / 2 ∈ N := fun p hp q hq => by
      rcases List.mem_append.1 hq with h | h
      · exact hu q h
      · have : q = p := by simpa using h
        rw [this]; exact hp
    have e0 := t.free h0 hu
    have e1 := t.free h1 hu
    have i0 := t.cnt (M := M) (used := used ++ [2 * n]) hM' (hs _ h0)
    have i1 := t.cnt (M := M) (used := used ++ [2 * n + 1]) hM' (hs _ h1)
    rw [List.map_append, List.map_singleton] at i0 i1
    rw [List.map_cons, cntF_cons, cntF_cons]
    rcases t.side n hn with ⟨a, b⟩ | ⟨a, b⟩
    · rw [a] at e0 i0
      rw [b] at e1 i1
      rw [e0, e1, i0, i1]
    · rw [a] at e0 i0
      rw [b] at e1 i1
      rw [e0, e1, i0, i1, Nat.add_comm]
theorem Turn.most {f g : Nat → Nat} (t : Turn L L' N f g) : ∀ {M used : List Nat}, (∀ n ∈ M, n ∈ N) → (∀ q ∈ used, q / 2 ∈ N) → mostF L' (M.map g) (used.map f) = mostF L M used
  | [], _, _, _ => rfl
  | n :: M, used, hM, hu => by
    have hn := hM n (by simp)
    have hM' : ∀ k ∈ M, k ∈ N := fun k hk => hM k (by simp [hk])
    have h0 : (2 * n) / 2 ∈ N := by rw [(half n).1]; exact hn
    have h1 : (2 * n + 1) / 2 ∈ N := by rw [(half n).2]; exact hn
    have hs : ∀ p, p / 2 ∈ N → ∀ q ∈ used ++ [p], q / 2 ∈ N := fun p hp q hq => by
      rcases List.mem_append.1 hq with h | h
      · exact hu q h
      · have : q = p := by simpa using h
        rw [this]; exact hp
    have e0 := t.free h0 hu
    have e1 := t.free h1 hu
    have i0 := t.most (M := M) (used := used ++ [2 * n]) hM' (hs _ h0)
    have i1 := t.most (M := M) (used := used ++ [2 * n + 1]) hM' (hs _ h1)
    rw [List.map_append, List.map_singleton] at i0 i1
    rw [List.map_cons, mostF_cons, mostF_cons, t.most hM' hu]
    rcases t.side n hn with ⟨a, b⟩ | ⟨a, b⟩
    · rw [a] at e0 i0
      rw [b] at e1 i1
      rw [e0, e1, i0, i1]
    · rw [a] at e0 i0
      rw [b] at e1 i1
      rw [e0, e1, i0, i1, Nat.max_assoc, Nat.max_assoc, Nat.max_comm (addIf (Sat.free L (2 * n + 1) used) _)]
/-- names of which no places meet those of others -/
def Apart (L : Lay) (M K : List Nat) : Prop := ∀ p q, p / 2 ∈ M → q / 2 ∈ K → L.meet p q = false
theorem free_apart {used : List Nat} {p q : Nat} (h : L.meet q p = false) : free L q (used ++ [p]) = free L q used := by rw [free_snoc, h]; simp
theorem free_pre {used r : List Nat} {p q : Nat} (h : L.meet q p = false) : free L q (p :: used ++ r) = free L q (used ++ r) := by
  rw [free, free, List.cons_append, List.any_cons, h]; rfl
theorem cnt_pre {K : List Nat} : ∀ {p : Nat} {used : List Nat}, (∀ q, q / 2 ∈ K → L.meet q p = false) → cntF L K (p :: used) = cntF L K used := by
  induction K with
  | nil => exact fun _ => rfl
  | cons n K ih =>
    intro p used h
    have h0 := h (2 * n) (by rw [(half n).1]; simp)
    have h1 := h (2 * n + 1) (by rw [(half n).2]; simp)
    have f : ∀ q, L.meet q p = false → free L q (p :: used) = free L q used := fun q hq => by rw [free, free, List.any_cons, hq]; rfl
    rw [cntF_cons, cntF_cons, f _ h0, f _ h1, List.cons_append, List.cons_append, ih fun q hq => h q (by simp [hq]), ih fun q hq => h q (by simp [hq])]
theorem most_pre {K : List Nat} : ∀ {p : Nat} {used : List Nat}, (∀ q, q / 2 ∈ K → L.meet q p = false) → mostF L K (p :: used) = mostF L K used := by
  induction K with
  | nil => exact fun _ => rfl
  | cons n K ih =>
    intro p used h
    have h0 := h (2 * n) (by rw [(half n).1]; simp)
    have h1 := h (2 * n + 1) (by rw [(half n).2]; simp)
    have f : ∀ q, L.meet q p = false → free L q (p :: used) = free L q used := fun q hq => by rw [free, free, List.any_cons, hq]; rfl
    have hk : ∀ q, q / 2 ∈ K → L.meet q p = false := fun q hq => h q (by simp [hq])
    rw [mostF_cons, mostF_cons, f _ h0, f _ h1, List.cons_append, List.cons_append, ih hk, ih hk, ih hk]
theorem cnt_app {K : List Nat} : ∀ {M used : List Nat}, Apart L M K → cntF L (M ++ K) used = cntF L M used * cntF L K used
  | [], used, _ => by rw [List.nil_append, cntF, Nat.one_mul]
  | n :: M, used, h => by
    have hM : Apart L M K := fun p q hp hq => h p q (by simp [hp]) hq
    have e : ∀ p, p / 2 = n → cntF L K (used ++ [p]) = cntF L K used := fun p hp => by
      rw [cntF_mem K (used' := p :: used) fun q => by simp [or_comm]]
      exact cnt_pre fun q hq => by rw [L.sym]; exact h p q (by rw [hp]; simp) hq
    rw [List.cons_append, cntF_cons, cntF_cons, cnt_app hM, cnt_app hM, e _ (half n).1, e _ (half n).2, Nat.add_mul]
    cases free L (2 * n) used <;> cases free L (2 * n + 1) used <;> simp [addIf]
theorem most_app {K : List Nat} : ∀ {M used : List Nat}, Apart L M K → mostF L (M ++ K) used = mostF L M used + mostF L K used
  | [], used, _ => by rw [List.nil_append, mostF, Nat.zero_add]
  | n :: M, used, h => by
    have hM : Apart L M K := fun p q hp hq => h p q (by simp [hp]) hq
    have e : ∀ p, p / 2 = n → mostF L K (used ++ [p]) = mostF L K used := fun p hp => by
      rw [mostF_mem K (used' := p :: used) fun q => by simp [or_comm]]
      exact most_pre fun q hq => by rw [L.sym]; exact h p q (by rw [hp]; simp) hq
    rw [List.cons_append, mostF_cons, mostF_cons, most_app hM, most_app hM, most_app hM, e _ (half n).1, e _ (half n).2]
    have key : ∀ a b c k : Nat, max (max (a + k) b) c = max (max (a + k) b) c := fun _ _ _ _ => rfl
    cases free L (2 * n) used <;> cases free L (2 * n + 1) used <;> simp only [addIf, if_true, Bool.false_eq_true, if_false, Nat.max_def] <;> (repeat' split) <;> omega
/-- more meetings, more that is covered: no more settings -/
structure More (L L' : Lay) : Prop where
  meet : ∀ p q, L.meet p q = true → L'.meet p q = true
  cov : ∀ p, L.cov p = true → L'.cov p = true
theorem More.free (h : More L L') {p : Nat} {used : List Nat} (hf : free L' p used = true) : free L p used = true := by
  rw [Sat.free, Bool.and_eq_true] at hf ⊢
  obtain ⟨h1, h2⟩ := hf
  constructor
  · cases hc : L.cov p
    · rfl
    · rw [h.cov p hc] at h1; cases h1
  · cases hc : used.any fun u => L.meet p u
    · rfl
    · obtain ⟨u, hu, hm⟩ := List.any_eq_true.1 hc
      have : (used.any fun u => L'.meet p u) = true := List.any_eq_true.2 ⟨u, hu, h.meet p u hm⟩
      rw [this] at h2; cases h2
theorem More.cnt (h : More L L') : ∀ (N used : List Nat), cntF L' N used ≤ cntF L N used
  | [], _ => Nat.le_refl _
  | n :: ns, used => by
    have key : ∀ p, addIf (Sat.free L' p used) (cntF L' ns (used ++ [p])) ≤ addIf (Sat.free L p used) (cntF L ns (used ++ [p])) := fun p => by
      have ih := h.cnt ns (used ++ [p])
      cases hf : Sat.free L' p used
      · exact Nat.zero_le _
      · rw [h.free hf]; exact ih
    rw [cntF_cons, cntF_cons]
    exact Nat.add_le_add (key _) (key _)
theorem More.lead (h : More L L') {p q : Nat} (hl : lead L p q = true) : lead L' p q = true := by
  rw [Sat.lead, Bool.or_eq_true, Bool.and_eq_true] at hl ⊢
  rcases hl with hl | ⟨h1, h2⟩
  · exact .inl (h.meet _ _ hl)
  · exact .inr ⟨h1, h.cov _ h2⟩
theorem Path.more (h : More L L') {N' : List Nat} (hN : ∀ n ∈ N, n ∈ N') : ∀ {l : List Nat}, Path L N l → Path L' N' l
  | [], _ => trivial
  | [_], _ => trivial
  | _ :: y :: l, hp => ⟨h.lead hp.1, hN _ hp.2.1, Path.more h hN (l := y :: l) hp.2.2⟩
theorem IsChain.more (h : More L L') {N' : List Nat} (hN : ∀ n ∈ N, n ∈ N') {l : List Nat} (hc : IsChain L N l) : IsChain L' N' l :=
  ⟨hc.lo, hc.hi, fun p hp => hN _ (hc.inN p hp), hc.path.more h hN, hc.ends, hc.mate⟩
theorem Can.fewer {N' : List Nat} (hN : ∀ n ∈ N', n ∈ N) (h : Can L N []) : Can L N' [] := by
  obtain ⟨u, hu, _⟩ := h
  refine ⟨fun p => u p && decide (p / 2 ∈ N'), ⟨fun n hn => ?_, fun p hp => ?_, fun p hp => ?_, fun p q hp hq => ?_⟩, fun p hp => absurd hp (by simp)⟩
  · have := hu.one n (hN n hn)
    simp only [(half n).1, (half n).2, hn, decide_true, Bool.and_true]
    exact this
  · rw [Bool.and_eq_true, decide_eq_true_iff] at hp; exact hp.2
  · rw [Bool.and_eq_true] at hp; exact hu.cov p hp.1
  · rw [Bool.and_eq_true] at hp hq; exact hu.meet p q hp.1 hq.1
theorem can_cnt (hN : N.Nodup) : Can L N [] ↔ 0 < cntF L N [] := by
  rw [can_sides hN, cntF_len, List.length_pos_iff_exists_mem]
  constructor
  · rintro ⟨bs, hb, ho, _⟩; exact ⟨bs, List.mem_filter.2 ⟨hb, ho⟩⟩
  · rintro ⟨bs, h⟩
    obtain ⟨hb, ho⟩ := List.mem_filter.1 h
    exact ⟨bs, hb, ho, fun p hp => absurd hp (by simp)⟩
end Sat
end Go.Proofs.Ytdhdpbnlhnodjaa

/-  The answers of layer 2, as plain functions of a sheet and of names. -/
namespace Go.Proofs.Ytdhdpbnlhnodjaa
open Go.RowKit

theorem vsheet_zero {n : Int} {ms : List (Int × Int)} {cs : List Int} (h : vsheet n ms cs = 0) :
    ∃ k : Nat, n = k ∧ 1 ≤ k ∧ k ≤ 10 ∧ ms.length ≤ 40 ∧ cs.length ≤ 20 ∧ (∀ m ∈ ms, 0 ≤ m.1 ∧ m.1 < 2 * n ∧ 0 ≤ m.2 ∧ m.2 < 2 * n ∧ m.1 / 2 ≠ m.2 / 2) ∧ ∀ c ∈ cs, 0 ≤ c ∧ c < 2 * n := by
  rw [vsheet] at h
  split at h
  · cases h
  · rename_i h1
    split at h
    · cases h
    · rename_i h2
      split at h
      · cases h
      · rename_i h3
        simp only [not_or, List.any_eq_true, not_exists, not_and, isPl, Bool.or_eq_true, Bool.not_eq_true', Bool.and_eq_false_iff, decide_eq_false_iff_not, beq_iff_eq] at h1 h2 h3
        refine ⟨n.toNat, by omega, by omega, by omega, by omega, by omega, fun m hm => ?_, fun c hc => ?_⟩
        · have := h2.1 m hm
          have := h3 m hm
          omega
        · have := h2.2 c hc
          omega
/-- a valid sheet, in natural numbers -/
structure Shn (n : Nat) (ms : List (Nat × Nat)) (cs : List Nat) : Prop where
  n1 : 1 ≤ n
  n10 : n ≤ 10
  ml : ms.length ≤ 40
  cl : cs.length ≤ 20
  mr : ∀ m ∈ ms, m.1 < 2 * n ∧ m.2 < 2 * n
  ne : ∀ m ∈ ms, m.1 / 2 ≠ m.2 / 2
  cr : ∀ c ∈ cs, c < 2 * n
def prI (m : Nat × Nat) : Int × Int := ((m.1 : Int), (m.2 : Int))
theorem vsheet_nat {n : Int} {ms : List (Int × Int)} {cs : List Int} (h : vsheet n ms cs = 0) :
    ∃ (k : Nat) (mn : List (Nat × Nat)) (cn : List Nat), n = k ∧ ms = mn.map prI ∧ cs = cn.map (fun (c : Nat) => (c : Int)) ∧ Shn k mn cn := by
  obtain ⟨k, rfl, h1, h2, h3, h4, h5, h6⟩ := vsheet_zero h
  refine ⟨k, ms.map fun m => (m.1.toNat, m.2.toNat), cs.map Int.toNat, rfl, ?_, ?_, ⟨h1, h2, by simpa using h3, by simpa using h4, ?_, ?_, ?_⟩⟩
  · rw [List.map_map]
    symm
    rw [List.map_congr_left (g := id) fun m hm => ?_]
    · simp
    · have := h5 m hm
      show ((m.1.toNat : Int), (m.2.toNat : Int)) = m
      rw [Int.toNat_of_nonneg this.1, Int.toNat_of_nonneg this.2.2.1]
  · rw [List.map_map]
    symm
    rw [List.map_congr_left (g := id) fun c hc => ?_]
    · simp
    · exact Int.toNat_of_nonneg (h6 c hc).1
  · intro m hm
    obtain ⟨x, hx, rfl⟩ := List.mem_map.1 hm
    have := h5 x hx
    constructor <;> dsimp only <;> omega
  · intro m hm
    obtain ⟨x, hx, rfl⟩ := List.mem_map.1 hm
    have := h5 x hx
    dsimp only; omega
  · intro c hc
    obtain ⟨x, hx, rfl⟩ := List.mem_map.1 hc
    have := h6 x hx
    omega
theorem isPl_nat {n p : Nat} (h : p < 2 * n) : isPl n p = true := by
  rw [isPl, decide_eq_true (by omega), decide_eq_true (by omega)]; rfl
theorem Shn.v {n : Nat} {ms : List (Nat × Nat)} {cs : List Nat} (h : Shn n ms cs) : vsheet n (ms.map prI) (cs.map fun (c : Nat) => (c : Int)) = 0 := by
  have h1 := h.n1; have h2 := h.n10; have h3 := h.ml; have h4 := h.cl
  rw [vsheet, if_neg (by simp; omega), if_neg, if_neg]
  · simp only [List.any_map, List.any_eq_true, not_exists, not_and, Function.comp, beq_iff_eq, prI]
    intro m hm e
    refine h.ne m hm ?_
    have e2 : (m.1 : Int) / 2 = (m.2 : Int) / 2 := e
    omega
  · rintro (e | e)
    · obtain ⟨m', hm', e⟩ := List.any_eq_true.1 e
      obtain ⟨m, hm, rfl⟩ := List.mem_map.1 hm'
      have := h.mr m hm
      rw [show isPl n (prI m).1 = true from isPl_nat this.1, show isPl n (prI m).2 = true from isPl_nat this.2] at e
      cases e
    · obtain ⟨c', hc', e⟩ := List.any_eq_true.1 e
      obtain ⟨c, hc, rfl⟩ := List.mem_map.1 hc'
      have := h.cr c hc
      rw [isPl_nat this] at e
      cases e
/-- its places that meet, and are covered -/
def Shn.lay {n : Nat} {ms : List (Nat × Nat)} {cs : List Nat} (h : Shn n ms cs) : Sat.Lay := Sat.layS ms cs h.ne
/-- names: strictly increasing, of the sheet -/
def namesF (n : Int) : Int → List Int → Bool
  | _, [] => true
  | lo, x :: xs => decide (lo ≤ x) && decide (x < n) && namesF n (x + 1) xs
def namesB (n : Int) (xs : List Int) : Bool := namesF n 0 xs
theorem namesF_nat {n : Nat} : ∀ {lo : Nat} {xs : List Int}, namesF n lo xs = true → ∃ N : List Nat, xs = N.map (fun (k : Nat) => (k : Int)) ∧ N.Pairwise (· < ·) ∧ ∀ k ∈ N, lo ≤ k ∧ k < n
  | lo, [], _ => ⟨[], rfl, List.Pairwise.nil, fun k h => absurd h (by simp)⟩
  | lo, x :: xs, h => by
    rw [namesF, Bool.and_eq_true, Bool.and_eq_true, decide_eq_true_iff, decide_eq_true_iff] at h
    obtain ⟨k, rfl⟩ := Int.eq_ofNat_of_zero_le (show 0 ≤ x by omega)
    obtain ⟨N, rfl, h1, h2⟩ := namesF_nat (lo := k + 1) (by simpa using h.2)
    refine ⟨k :: N, rfl, List.pairwise_cons.2 ⟨fun j hj => by have := h2 j hj; omega, h1⟩, fun j hj => ?_⟩
    rcases List.mem_cons.1 hj with rfl | hj
    · omega
    · have := h2 j hj; omega
theorem namesF_of {n : Nat} : ∀ {lo : Nat} {N : List Nat}, N.Pairwise (· < ·) → (∀ k ∈ N, lo ≤ k ∧ k < n) → namesF n lo (N.map fun (k : Nat) => (k : Int)) = true
  | lo, [], _, _ => rfl
  | lo, k :: N, h1, h2 => by
    have hk := h2 k (by simp)
    obtain ⟨h3, h4⟩ := List.pairwise_cons.1 h1
    have := namesF_of (lo := k + 1) h4 fun j hj => ⟨h3 j hj, (h2 j (by simp [hj])).2⟩
    rw [List.map_cons, namesF, Bool.and_eq_true, Bool.and_eq_true, decide_eq_true_iff, decide_eq_true_iff]
    exact ⟨⟨by omega, by omega⟩, by simpa using this⟩
/-- names of a sheet, in natural numbers -/
structure Nms (n : Nat) (N : List Nat) : Prop where
  inc : N.Pairwise (· < ·)
  lt : ∀ k ∈ N, k < n
theorem Nms.nodup {n : Nat} {N : List Nat} (h : Nms n N) : N.Nodup := h.inc.imp fun h => Nat.ne_of_lt h
theorem Nms.len {n : Nat} {N : List Nat} (h : Nms n N) : N.length ≤ n := Sat.nodup_le n N h.nodup h.lt
theorem namesB_nat {n : Nat} {xs : List Int} (h : namesB n xs = true) : ∃ N : List Nat, xs = N.map (fun (k : Nat) => (k : Int)) ∧ Nms n N := by
  obtain ⟨N, h1, h2, h3⟩ := namesF_nat (lo := 0) (by simpa [namesB] using h)
  exact ⟨N, h1, h2, fun k hk => (h3 k hk).2⟩
theorem Nms.b {n : Nat} {N : List Nat} (h : Nms n N) : namesB n (N.map fun (k : Nat) => (k : Int)) = true := by
  have := namesF_of (lo := 0) h.inc fun k hk => ⟨Nat.zero_le _, h.lt k hk⟩
  simpa [namesB] using this
/-- the errors of a sheet, and of names -/
def nameE (n : Int) (ms : List (Int × Int)) (cs : List Int) (xs : List Int) : Int := if vsheet n ms cs ≠ 0 then vsheet n ms cs else if namesB n xs = true then 0 else 2
end Go.Proofs.Ytdhdpbnlhnodjaa
