import Derived.Test.YtbjmfhlkmklmmaaRows
import Derived.WalkKit
import Derived.WalkSpells
import Derived.WalkLawsBesides
import Derived.Deep.QuietTactic
import Derived.BigQuiet
import Derived.Lib.Hide
/-
  Plain facts on worlds and on slices that read as lists; nothing of the program stands here.
-/
namespace Go.Proofs.Ytbjmfhlkmklmmaa
open Go.RowKit

/-- A world behind `W`: of what `W` held nothing has changed. -/
structure Later (W : World) where
  w : World
  le : Below W.heap.size W w

/-- What a call leaves that returns v and changes nothing that was there. -/
def Gives (v : Value) (w : World) (e : Ending) (w' : World) : Prop := e = .returned v ∧ ∃ x : Later w, w' = x.w

namespace Later
variable {W : World}
def self (W : World) : Later W := ⟨W, Below.refl _ _⟩
theorem size (x : Later W) : W.heap.size ≤ x.w.heap.size := x.le.size
theorem lt (x : Later W) {b : Nat} (h : b < W.heap.size) : (b < x.w.heap.size) = True := eq_true (Nat.lt_of_lt_of_le h x.size)
theorem cell (x : Later W) {b o : Nat} (h : b < W.heap.size) : x.w.cell? ⟨b, o, none⟩ = W.cell? ⟨b, o, none⟩ := x.le.cell (p := ⟨b, o, none⟩) h
theorem frozen (x : Later W) {b o : Nat} (h : b < W.heap.size) : x.w.frozen? ⟨b, o, none⟩ = W.frozen? ⟨b, o, none⟩ := x.le.frozen (p := ⟨b, o, none⟩) h
def step (x : Later W) (y : Later x.w) : Later W := ⟨y.w, x.le.trans (y.le.mono x.size)⟩
def new (W : World) (o : Obj) : Later W := ⟨W.alloc o, (Below.refl _ _).alloc (Nat.le_refl _) _⟩
def draw (W : World) : Later W := ⟨W.drew, (Below.refl _ _).drew⟩
instance (W : World) : Nonempty (Later W) := ⟨self W⟩
theorem quiet {W : World} (x : Later W) {P : Program} {f : FuncId} {args : Array Value} {v : Value} (h : Calls P f args x.w (Gives v x.w)) :
    Calls P f args x.w fun e w' => e = .returned v ∧ ∃ y : Later W, w' = y.w := h.mono fun _ _ ⟨he, y, hy⟩ => ⟨he, x.step y, hy⟩
theorem quiet_same {W : World} (x : Later W) {P : Program} {f : FuncId} {args : Array Value} {v : Value} (h : Calls P f args x.w fun e w' => e = .returned v ∧ w' = x.w) :
    Calls P f args x.w fun e w' => e = .returned v ∧ ∃ y : Later W, w' = y.w := h.mono fun _ _ ⟨he, hy⟩ => ⟨he, x, hy⟩
end Later

theorem Later.new_w (W : World) (o : Obj) : (Later.new W o).w = W.alloc o := rfl
theorem Later.draw_w (W : World) : (Later.draw W).w = W.drew := rfl
theorem Later.self_w (W : World) : (Later.self W).w = W := rfl
theorem Later.step_w {W : World} (x : Later W) (y : Later x.w) : (x.step y).w = y.w := rfl
theorem lt_succ_of {b n : Nat} (h : b < n) : (b < n + 1) = True := eq_true (Nat.lt_succ_of_lt h)
theorem le_of_lt' {b n : Nat} (h : b < n) : (b ≤ n) = True := eq_true (Nat.le_of_lt h)
attribute [go_sem] Later.new_w Later.draw_w Later.self_w Later.step_w Later.lt Later.cell Later.frozen lt_succ_of le_of_lt'


/-- the k-th number of a list, the k-th list of several (plain functions, so that no walk opens them) -/
def nth (xs : List Int) (k : Nat) : Int := xs.getD k 0
def row (xss : List (List Int)) (k : Nat) : List Int := xss.getD k []
theorem nth_eq {xs : List Int} {k : Nat} (h : k < xs.length) : nth xs k = xs[k] := by simp [nth, h]
theorem row_eq {xss : List (List Int)} {k : Nat} (h : k < xss.length) : row xss k = xss[k] := by simp [row, h]

/-- A slice of integers that reads as a list. -/
def Ints (w : World) (v : Value) (xs : List Int) : Prop :=
  xs.length ≤ 9007199254740992 ∧ ((xs = [] ∧ ∃ a cap, v = .slice a 0 cap) ∨
    ∃ b off cap, v = .slice (some ⟨b, off, none⟩) xs.length cap ∧ xs.length ≤ cap ∧ b < w.heap.size ∧ ∀ k, k < xs.length → w.cell? ⟨b, off + k, none⟩ = some (.int .i64 (nth xs k)))

theorem Ints.later {w : World} {v : Value} {xs : List Int} (h : Ints w v xs) (x : Later w) : Ints x.w v xs := by
  obtain ⟨h1, h2 | ⟨b, off, cap, hv, hl, hb, hc⟩⟩ := h
  · exact ⟨h1, .inl h2⟩
  · exact ⟨h1, .inr ⟨b, off, cap, hv, hl, Nat.lt_of_lt_of_le hb x.size, fun k hk => (x.cell hb).trans (hc k hk)⟩⟩

/-- A slice of slices of integers. -/
def Rows2 (w : World) (v : Value) (xss : List (List Int)) : Prop :=
  xss.length ≤ 9007199254740992 ∧ ((xss = [] ∧ ∃ a cap, v = .slice a 0 cap) ∨
    ∃ b off cap, ∃ f : Nat → Value, v = .slice (some ⟨b, off, none⟩) xss.length cap ∧ xss.length ≤ cap ∧ b < w.heap.size ∧ ∀ k, k < xss.length → w.cell? ⟨b, off + k, none⟩ = some (f k) ∧ Ints w (f k) (row xss k))

theorem Rows2.later {w : World} {v : Value} {xss : List (List Int)} (h : Rows2 w v xss) (x : Later w) : Rows2 x.w v xss := by
  obtain ⟨h1, h2 | ⟨b, off, cap, f, hv, hl, hb, hc⟩⟩ := h
  · exact ⟨h1, .inl h2⟩
  · exact ⟨h1, .inr ⟨b, off, cap, f, hv, hl, Nat.lt_of_lt_of_le hb x.size, fun k hk => ⟨(x.cell hb).trans (hc k hk).1, (hc k hk).2.later x⟩⟩⟩

/-- A region that draws its order, whose operations only read, and whose calls leave what was there: one walk in the order of the text. -/
theorem region_later_lit {P : Program} {id : Nat} {Q : Exit → Act → World → Prop} {a : Act} {w : World} {l : List Oper} (hm : P.follows .mixedOrders = true) (hB : Region.lexB .any l.toArray = true)
    (h : wpQuiet P l.toArray (fun w' => ∃ x : Later w, w' = x.w) (fun a' => ∀ x : Later w, Q .normal a' x.w) l a) : (Code.region id l.toArray true).wp P Q a w := by
  refine wp_region_quiet (C := fun w' => ∃ x : Later w, w' = x.w) hm hB ⟨Later.draw _, rfl⟩ ?_
  have e : (fun a' => ∀ x : Later w, Q .normal a' x.w) = (fun a' => ∀ w', (∃ x : Later w, w' = x.w) → Q .normal a' w') := by
    funext a'
    exact propext ⟨fun h w' ⟨x, hx⟩ => hx ▸ h x, fun h x => h _ ⟨x, rfl⟩⟩
  rw [e] at h
  simpa using h

theorem Ints.form {w : World} {v : Value} {xs : List Int} (h : Ints w v xs) : ∃ a cap, v = .slice a xs.length cap := by
  obtain ⟨h1, ⟨rfl, a, cap, rfl⟩ | ⟨b, off, cap, rfl, _⟩⟩ := h
  · exact ⟨a, cap, rfl⟩
  · exact ⟨_, cap, rfl⟩
theorem Rows2.form {w : World} {v : Value} {xss : List (List Int)} (h : Rows2 w v xss) : ∃ a cap, v = .slice a xss.length cap := by
  obtain ⟨h1, ⟨rfl, a, cap, rfl⟩ | ⟨b, off, cap, f, rfl, _⟩⟩ := h
  · exact ⟨a, cap, rfl⟩
  · exact ⟨_, cap, rfl⟩
theorem Ints.nil {w : World} (a : Option Addr) (cap : Nat) : Ints w (.slice a 0 cap) [] := ⟨by simp, .inl ⟨rfl, a, cap, rfl⟩⟩
/-- a list of numbers written out, in a new block -/
theorem Ints.lit (w : World) (xs : List Int) {arr : Array Value} {n b : Nat} (T : TypeId) (hb : b = w.heap.size) (ha : arr = (xs.map (Value.int .i64)).toArray) (hn : n = xs.length) (hl : xs.length ≤ 9007199254740992) :
    Ints (w.alloc (.cells arr T)) (.slice (some ⟨b, 0, none⟩) n n) xs := by
  subst hb ha hn
  refine ⟨hl, .inr ⟨w.heap.size, 0, xs.length, rfl, Nat.le_refl _, by simp, fun k hk => ?_⟩⟩
  simp [nth, hk]

theorem Ints.at {w : World} {v : Value} {xs : List Int} (h : Ints w v xs) {k : Nat} (hk : k < xs.length) :
    ∃ b off cap, v = .slice (some ⟨b, off, none⟩) xs.length cap ∧ xs.length ≤ cap ∧ b < w.heap.size ∧ ∀ k, k < xs.length → w.cell? ⟨b, off + k, none⟩ = some (.int .i64 (nth xs k)) := by
  obtain ⟨h1, ⟨rfl, _⟩ | h2⟩ := h
  · simp at hk
  · exact h2
theorem Rows2.at {w : World} {v : Value} {xss : List (List Int)} (h : Rows2 w v xss) {k : Nat} (hk : k < xss.length) :
    ∃ b off cap, ∃ f : Nat → Value, v = .slice (some ⟨b, off, none⟩) xss.length cap ∧ xss.length ≤ cap ∧ b < w.heap.size ∧ (∀ j, j < xss.length → w.cell? ⟨b, off + j, none⟩ = some (f j) ∧ Ints w (f j) (row xss j)) := by
  obtain ⟨h1, ⟨rfl, _⟩ | h2⟩ := h
  · simp at hk
  · exact h2
theorem ret_int {k : IntKind} {a b : Int} (h : a = b) : Ending.returned (.int k a) = .returned (.int k b) := by rw [h]
theorem ret_two {k : IntKind} {c : Value} {a b : Int} (h : a = b) : Ending.returned (.tuple #[c, .int k a]) = .returned (.tuple #[c, .int k b]) := by rw [h]
theorem ret_bool {a b : Bool} (h : a = b) : Ending.returned (.bool a) = .returned (.bool b) := by rw [h]
theorem Calls.gives {P : Program} {f : FuncId} {args : Array Value} {w : World} {v : Value} (h : Calls P f args w fun e w' => e = .returned v ∧ w' = w) : Calls P f args w (Gives v w) :=
  h.mono fun _ _ ⟨he, hw⟩ => ⟨he, Later.self w, hw⟩

/-- What is kept through a region that draws and holds calls: a world behind W0, in which two cells read as said. -/
abbrev Held2 (W0 : World) (b : Nat) (u v : Value) (w' : World) : Prop := w'.cell? ⟨b, 0, none⟩ = some u ∧ w'.cell? ⟨b, 1, none⟩ = some v ∧ Below W0.heap.size W0 w'
theorem Held2.start {W0 : World} {b : Nat} {u v : Value} (h1 : W0.cell? ⟨b, 0, none⟩ = some u) (h2 : W0.cell? ⟨b, 1, none⟩ = some v) : Held2 W0 b u v W0.drew := ⟨h1, h2, (Below.refl _ _).drew⟩
theorem Held2.go {W0 : World} {b : Nat} {u v : Value} {w' : World} (h : Held2 W0 b u v w') (x : Later w') : Held2 W0 b u v x.w := by
  have h1 := h.1
  have hb : b < w'.heap.size := World.block_lt_of_cell? w' ⟨b, 0, none⟩ h1
  exact ⟨(x.cell hb).trans h.1, (x.cell hb).trans h.2.1, (Later.mk w' h.2.2).step x |>.le⟩
theorem Rows2.held {W0 : World} {b : Nat} {u v : Value} {w' : World} {x : Value} {xss : List (List Int)} (h : Rows2 W0 x xss) (hh : Held2 W0 b u v w') : Rows2 w' x xss := h.later ⟨w', hh.2.2⟩
theorem Ints.held {W0 : World} {b : Nat} {u v : Value} {w' : World} {x : Value} {xs : List Int} (h : Ints W0 x xs) (hh : Held2 W0 b u v w') : Ints w' x xs := h.later ⟨w', hh.2.2⟩

end Go.Proofs.Ytbjmfhlkmklmmaa
