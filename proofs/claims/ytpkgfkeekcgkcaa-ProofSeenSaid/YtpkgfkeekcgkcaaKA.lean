import Derived.Test.YtpkgfkeekcgkcaaRows
import Derived.WalkKit
import Derived.WalkSpells
import Derived.WalkLawsBesides
import Derived.Deep.QuietTactic
import Derived.BigQuiet
import Derived.Lib.Hide
import Derived.Deep.AppendSrc
import Derived.Deep.Upon
import Derived.Maps.AppendAt
import Derived.Laws.CopyRow
import Derived.Lib.SlFresh
import Derived.Laws.OwnMore
import Derived.OrdersHeld
import Derived.OrdersIn
import Derived.Laws.Strings
import Derived.Laws.Strings2
import Derived.Laws.Strings3
import Derived.Laws.Concat
import Derived.Deep.WholeRow
import Derived.Deep.MidRow
import Derived.Deep.OwnRows
import Derived.Laws.Rows
import Derived.RangeFuncRecord
/-
  Plain facts on worlds and on slices that read as lists; nothing of the program stands here.
-/
namespace Go.Proofs.Ytpkgfkeekcgkcaa
open Go.RowKit

/-- A world behind `W`: of what `W` held nothing has changed. -/
structure Later (W : World) where
  w : World
  le : Below W.heap.size W w

/-- What a call leaves that returns v and changes nothing that was there. -/
def Gives (v : Value) (w : World) (e : Ending) (w' : World) : Prop := e = .returned v ∧ ∃ x : Later w, w' = x.w

namespace Later
variable {W : World}
def self (W : World) : Later W := ⟨W, Below.refl _ _⟩
theorem size (x : Later W) : W.heap.size ≤ x.w.heap.size := x.le.size
theorem lt (x : Later W) {b : Nat} (h : b < W.heap.size) : (b < x.w.heap.size) = True := eq_true (Nat.lt_of_lt_of_le h x.size)
theorem cell (x : Later W) {b o : Nat} (h : b < W.heap.size) : x.w.cell? ⟨b, o, none⟩ = W.cell? ⟨b, o, none⟩ := x.le.cell (p := ⟨b, o, none⟩) h
theorem frozen (x : Later W) {b o : Nat} (h : b < W.heap.size) : x.w.frozen? ⟨b, o, none⟩ = W.frozen? ⟨b, o, none⟩ := x.le.frozen (p := ⟨b, o, none⟩) h
def step (x : Later W) (y : Later x.w) : Later W := ⟨y.w, x.le.trans (y.le.mono x.size)⟩
def new (W : World) (o : Obj) : Later W := ⟨W.alloc o, (Below.refl _ _).alloc (Nat.le_refl _) _⟩
def draw (W : World) : Later W := ⟨W.drew, (Below.refl _ _).drew⟩
instance (W : World) : Nonempty (Later W) := ⟨self W⟩
theorem quiet {W : World} (x : Later W) {P : Program} {f : FuncId} {args : Array Value} {v : Value} (h : Calls P f args x.w (Gives v x.w)) :
    Calls P f args x.w fun e w' => e = .returned v ∧ ∃ y : Later W, w' = y.w := h.mono fun _ _ ⟨he, y, hy⟩ => ⟨he, x.step y, hy⟩
theorem quiet_same {W : World} (x : Later W) {P : Program} {f : FuncId} {args : Array Value} {v : Value} (h : Calls P f args x.w fun e w' => e = .returned v ∧ w' = x.w) :
    Calls P f args x.w fun e w' => e = .returned v ∧ ∃ y : Later W, w' = y.w := h.mono fun _ _ ⟨he, hy⟩ => ⟨he, x, hy⟩
end Later

theorem Later.new_w (W : World) (o : Obj) : (Later.new W o).w = W.alloc o := rfl
theorem Later.draw_w (W : World) : (Later.draw W).w = W.drew := rfl
theorem Later.self_w (W : World) : (Later.self W).w = W := rfl
theorem Later.step_w {W : World} (x : Later W) (y : Later x.w) : (x.step y).w = y.w := rfl
theorem lt_succ_of {b n : Nat} (h : b < n) : (b < n + 1) = True := eq_true (Nat.lt_succ_of_lt h)
theorem le_of_lt' {b n : Nat} (h : b < n) : (b ≤ n) = True := eq_true (Nat.le_of_lt h)
attribute [go_sem] Later.new_w Later.draw_w Later.self_w Later.step_w Later.lt Later.cell Later.frozen lt_succ_of le_of_lt'


/-- the k-th number of a list, the k-th list of several (plain functions, so that no walk opens them) -/
def nth (xs : List Int) (k : Nat) : Int := xs.getD k 0
def row (xss : List (List Int)) (k : Nat) : List Int := xss.getD k []
theorem nth_eq {xs : List Int} {k : Nat} (h : k < xs.length) : nth xs k = xs[k] := by simp [nth, h]
theorem row_eq {xss : List (List Int)} {k : Nat} (h : k < xss.length) : row xss k = xss[k] := by simp [row, h]

/-- A slice of integers that reads as a list. -/
def Ints (w : World) (v : Value) (xs : List Int) : Prop :=
  xs.length ≤ 9007199254740992 ∧ ((xs = [] ∧ ∃ a cap, v = .slice a 0 cap) ∨
    ∃ b off cap, v = .slice (some ⟨b, off, none⟩) xs.length cap ∧ xs.length ≤ cap ∧ b < w.heap.size ∧ ∀ k, k < xs.length → w.cell? ⟨b, off + k, none⟩ = some (.int .i64 (nth xs k)))

theorem Ints.later {w : World} {v : Value} {xs : List Int} (h : Ints w v xs) (x : Later w) : Ints x.w v xs := by
  obtain ⟨h1, h2 | ⟨b, off, cap, hv, hl, hb, hc⟩⟩ := h
  · exact ⟨h1, .inl h2⟩
  · exact ⟨h1, .inr ⟨b, off, cap, hv, hl, Nat.lt_of_lt_of_le hb x.size, fun k hk => (x.cell hb).trans (hc k hk)⟩⟩

/-- A slice of slices of integers. -/
def Rows2 (w : World) (v : Value) (xss : List (List Int)) : Prop :=
  xss.length ≤ 9007199254740992 ∧ ((xss = [] ∧ ∃ a cap, v = .slice a 0 cap) ∨
    ∃ b off cap, ∃ f : Nat → Value, v = .slice (some ⟨b, off, none⟩) xss.length cap ∧ xss.length ≤ cap ∧ b < w.heap.size ∧ ∀ k, k < xss.length → w.cell? ⟨b, off + k, none⟩ = some (f k) ∧ Ints w (f k) (row xss k))

theorem Rows2.later {w : World} {v : Value} {xss : List (List Int)} (h : Rows2 w v xss) (x : Later w) : Rows2 x.w v xss := by
  obtain ⟨h1, h2 | ⟨b, off, cap, f, hv, hl, hb, hc⟩⟩ := h
  · exact ⟨h1, .inl h2⟩
  · exact ⟨h1, .inr ⟨b, off, cap, f, hv, hl, Nat.lt_of_lt_of_le hb x.size, fun k hk => ⟨(x.cell hb).trans (hc k hk).1, (hc k hk).2.later x⟩⟩⟩

/-- A region that draws its order, whose operations only read, and whose calls leave what was there: one walk in the order of the text. -/
theorem region_later_lit {P : Program} {id : Nat} {Q : Exit → Act → World → Prop} {a : Act} {w : World} {l : List Oper} (hm : P.follows .mixedOrders = true) (hB : Region.lexB .any l.toArray = true)
    (h : wpQuiet P l.toArray (fun w' => ∃ x : Later w, w' = x.w) (fun a' => ∀ x : Later w, Q .normal a' x.w) l a) : (Code.region id l.toArray true).wp P Q a w := by
  refine wp_region_quiet (C := fun w' => ∃ x : Later w, w' = x.w) hm hB ⟨Later.draw _, rfl⟩ ?_
  have e : (fun a' => ∀ x : Later w, Q .normal a' x.w) = (fun a' => ∀ w', (∃ x : Later w, w' = x.w) → Q .normal a' w') := by
    funext a'
    exact propext ⟨fun h w' ⟨x, hx⟩ => hx ▸ h x, fun h x => h _ ⟨x, rfl⟩⟩
  rw [e] at h
  simpa using h

theorem Ints.form {w : World} {v : Value} {xs : List Int} (h : Ints w v xs) : ∃ a cap, v = .slice a xs.length cap := by
  obtain ⟨h1, ⟨rfl, a, cap, rfl⟩ | ⟨b, off, cap, rfl, _⟩⟩ := h
  · exact ⟨a, cap, rfl⟩
  · exact ⟨_, cap, rfl⟩
theorem Rows2.form {w : World} {v : Value} {xss : List (List Int)} (h : Rows2 w v xss) : ∃ a cap, v = .slice a xss.length cap := by
  obtain ⟨h1, ⟨rfl, a, cap, rfl⟩ | ⟨b, off, cap, f, rfl, _⟩⟩ := h
  · exact ⟨a, cap, rfl⟩
  · exact ⟨_, cap, rfl⟩
theorem Ints.nil {w : World} (a : Option Addr) (cap : Nat) : Ints w (.slice a 0 cap) [] := ⟨by simp, .inl ⟨rfl, a, cap, rfl⟩⟩
/-- a list of numbers written out, in a new block -/
theorem Ints.lit (w : World) (xs : List Int) {arr : Array Value} {n b : Nat} (T : TypeId) (hb : b = w.heap.size) (ha : arr = (xs.map (Value.int .i64)).toArray) (hn : n = xs.length) (hl : xs.length ≤ 9007199254740992) :
    Ints (w.alloc (.cells arr T)) (.slice (some ⟨b, 0, none⟩) n n) xs := by
  subst hb ha hn
  refine ⟨hl, .inr ⟨w.heap.size, 0, xs.length, rfl, Nat.le_refl _, by simp, fun k hk => ?_⟩⟩
  simp [nth, hk]

theorem Ints.at {w : World} {v : Value} {xs : List Int} (h : Ints w v xs) {k : Nat} (hk : k < xs.length) :
    ∃ b off cap, v = .slice (some ⟨b, off, none⟩) xs.length cap ∧ xs.length ≤ cap ∧ b < w.heap.size ∧ ∀ k, k < xs.length → w.cell? ⟨b, off + k, none⟩ = some (.int .i64 (nth xs k)) := by
  obtain ⟨h1, ⟨rfl, _⟩ | h2⟩ := h
  · simp at hk
  · exact h2
theorem Rows2.at {w : World} {v : Value} {xss : List (List Int)} (h : Rows2 w v xss) {k : Nat} (hk : k < xss.length) :
    ∃ b off cap, ∃ f : Nat → Value, v = .slice (some ⟨b, off, none⟩) xss.length cap ∧ xss.length ≤ cap ∧ b < w.heap.size ∧ (∀ j, j < xss.length → w.cell? ⟨b, off + j, none⟩ = some (f j) ∧ Ints w (f j) (row xss j)) := by
  obtain ⟨h1, ⟨rfl, _⟩ | h2⟩ := h
  · simp at hk
  · exact h2
theorem ret_int {k : IntKind} {a b : Int} (h : a = b) : Ending.returned (.int k a) = .returned (.int k b) := by rw [h]
theorem ret_two {k : IntKind} {c : Value} {a b : Int} (h : a = b) : Ending.returned (.tuple #[c, .int k a]) = .returned (.tuple #[c, .int k b]) := by rw [h]
theorem ret_bool {a b : Bool} (h : a = b) : Ending.returned (.bool a) = .returned (.bool b) := by rw [h]
theorem Calls.gives {P : Program} {f : FuncId} {args : Array Value} {w : World} {v : Value} (h : Calls P f args w fun e w' => e = .returned v ∧ w' = w) : Calls P f args w (Gives v w) :=
  h.mono fun _ _ ⟨he, hw⟩ => ⟨he, Later.self w, hw⟩

/-- What is kept through a region that draws and holds calls: a world behind W0, in which two cells read as said. -/
abbrev Held2 (W0 : World) (b : Nat) (u v : Value) (w' : World) : Prop := w'.cell? ⟨b, 0, none⟩ = some u ∧ w'.cell? ⟨b, 1, none⟩ = some v ∧ Below W0.heap.size W0 w'
theorem Held2.start {W0 : World} {b : Nat} {u v : Value} (h1 : W0.cell? ⟨b, 0, none⟩ = some u) (h2 : W0.cell? ⟨b, 1, none⟩ = some v) : Held2 W0 b u v W0.drew := ⟨h1, h2, (Below.refl _ _).drew⟩
theorem Held2.go {W0 : World} {b : Nat} {u v : Value} {w' : World} (h : Held2 W0 b u v w') (x : Later w') : Held2 W0 b u v x.w := by
  have h1 := h.1
  have hb : b < w'.heap.size := World.block_lt_of_cell? w' ⟨b, 0, none⟩ h1
  exact ⟨(x.cell hb).trans h.1, (x.cell hb).trans h.2.1, (Later.mk w' h.2.2).step x |>.le⟩
theorem Rows2.held {W0 : World} {b : Nat} {u v : Value} {w' : World} {x : Value} {xss : List (List Int)} (h : Rows2 W0 x xss) (hh : Held2 W0 b u v w') : Rows2 w' x xss := h.later ⟨w', hh.2.2⟩
theorem Ints.held {W0 : World} {b : Nat} {u v : Value} {w' : World} {x : Value} {xs : List Int} (h : Ints W0 x xs) (hh : Held2 W0 b u v w') : Ints w' x xs := h.later ⟨w', hh.2.2⟩

end Go.Proofs.Ytpkgfkeekcgkcaa

/-  Slices of pairs of numbers that read as lists. Nothing of the program stands here but the order of cells. -/
namespace Go.Proofs.Ytpkgfkeekcgkcaa
open Go.RowKit

def pr (ps : List (Int × Int)) (k : Nat) : Int × Int := ps.getD k (0, 0)
theorem pr_eq {ps : List (Int × Int)} {k : Nat} (h : k < ps.length) : pr ps k = ps[k] := by simp [pr, h]
/-- A slice of pairs that reads as a list. -/
def Prs (w : World) (v : Value) (ps : List (Int × Int)) : Prop :=
  ps.length ≤ 9007199254740992 ∧ ((ps = [] ∧ ∃ a cap, v = .slice a 0 cap) ∨
    ∃ b off cap, v = .slice (some ⟨b, off, none⟩) ps.length cap ∧ ps.length ≤ cap ∧ b < w.heap.size ∧ ∀ k, k < ps.length → w.cell? ⟨b, off + k * 2, none⟩ = some (.int .i64 (pr ps k).1) ∧ w.cell? ⟨b, off + k * 2 + 1, none⟩ = some (.int .i64 (pr ps k).2))
theorem Prs.later {w : World} {v : Value} {ps : List (Int × Int)} (h : Prs w v ps) (x : Later w) : Prs x.w v ps := by
  obtain ⟨h1, h2 | ⟨b, off, cap, hv, hl, hb, hc⟩⟩ := h
  · exact ⟨h1, .inl h2⟩
  · exact ⟨h1, .inr ⟨b, off, cap, hv, hl, Nat.lt_of_lt_of_le hb x.size, fun k hk => ⟨(x.cell hb).trans (hc k hk).1, (x.cell hb).trans (hc k hk).2⟩⟩⟩
theorem Prs.form {w : World} {v : Value} {ps : List (Int × Int)} (h : Prs w v ps) : ∃ a cap, v = .slice a ps.length cap := by
  obtain ⟨_, ⟨rfl, a, cap, rfl⟩ | ⟨b, off, cap, rfl, _⟩⟩ := h
  · exact ⟨a, cap, rfl⟩
  · exact ⟨_, cap, rfl⟩
theorem Prs.nil {w : World} (a : Option Addr) (cap : Nat) : Prs w (.slice a 0 cap) [] := ⟨by simp, .inl ⟨rfl, a, cap, rfl⟩⟩
theorem Prs.at {w : World} {v : Value} {ps : List (Int × Int)} (h : Prs w v ps) {k : Nat} (hk : k < ps.length) :
    ∃ b off cap, v = .slice (some ⟨b, off, none⟩) ps.length cap ∧ ps.length ≤ cap ∧ b < w.heap.size ∧ ∀ k, k < ps.length → w.cell? ⟨b, off + k * 2, none⟩ = some (.int .i64 (pr ps k).1) ∧ w.cell? ⟨b, off + k * 2 + 1, none⟩ = some (.int .i64 (pr ps k).2) := by
  obtain ⟨_, ⟨rfl, _⟩ | h2⟩ := h
  · simp at hk
  · exact h2
/-- a sheet by value: how many names, which places meet, which are covered -/
structure Sht (w : World) (mv cv : Value) (ms : List (Int × Int)) (cs : List Int) : Prop where
  m : Prs w mv ms
  c : Ints w cv cs
theorem Sht.later {w : World} {mv cv : Value} {ms : List (Int × Int)} {cs : List Int} (h : Sht w mv cv ms cs) (x : Later w) : Sht x.w mv cv ms cs := ⟨h.m.later x, h.c.later x⟩
/-! ### the answers -/
def isPl (n p : Int) : Bool := decide (0 ≤ p) && decide (p < 2 * n)
/-- CheckSheet -/
def vsheet (n : Int) (ms : List (Int × Int)) (cs : List Int) : Int :=
  if n < 1 ∨ 10 < n ∨ 40 < ms.length ∨ 20 < cs.length then 6
  else if (ms.any fun m => !isPl n m.1 || !isPl n m.2) = true ∨ (cs.any fun c => !isPl n c) = true then 3
  else if (ms.any fun m => m.1 / 2 == m.2 / 2) = true then 16
  else 0
end Go.Proofs.Ytpkgfkeekcgkcaa

/-  Lists of numbers that a call makes by 'append': plain law over the program's table of types, for []int (..M). -/
namespace Go.Proofs.Ytpkgfkeekcgkcaa
open Go.RowKit
theorem ok_inj {α : Type} {a b : α} {w w' : World} (h : (Result.ok a w : Result α) = .ok b w') : a = b ∧ w = w' := by cases h; exact ⟨rfl, rfl⟩

theorem info_intM : ∃ i : TypeInfo, Try.prog.info? 3 = some i ∧ i.zero = some (.int .i64 0) ∧ i.size = 1 ∧ i.bytes = 8 := by
  have h : (Try.prog.info? 3).map (fun i => (i.zero, i.size, i.bytes)) = some (some (.int .i64 0), 1, 8) := by kernel_rfl
  obtain ⟨i, hi, hz⟩ := Option.map_eq_some_iff.1 h
  simp only [Prod.mk.injEq] at hz
  exact ⟨i, hi, hz.1, hz.2.1, hz.2.2⟩
/-- a slice of one's own that reads as a list -/
def IntsM (lo : Nat) (w : World) (v : Value) (xs : List Int) : Prop := w.ownsRow lo 3 1 v xs.length (xs.map (Value.int .i64))
theorem IntsM.nil (lo : Nat) (w : World) : IntsM lo w (.slice none 0 0) [] := World.ownsRow_nil _ _ _ _
theorem IntsM.form {lo : Nat} {w : World} {v : Value} {xs : List Int} (h : IntsM lo w v xs) : ∃ a c, v = .slice a xs.length c := by
  obtain ⟨_, ⟨rfl, h0⟩ | ⟨g, cap, cur, rfl, _⟩⟩ := h
  · rw [h0]; exact ⟨_, _, rfl⟩
  · exact ⟨_, _, rfl⟩
theorem IntsM.form' {lo : Nat} {w : World} {v : Value} {xs : List Int} (h : IntsM lo w v xs) : ∃ a n c, v = .slice a n c := by
  obtain ⟨a, c, e⟩ := h.form; exact ⟨a, _, c, e⟩
theorem IntsM.cap {lo : Nat} {w : World} {a : Option Addr} {n c : Nat} {xs : List Int} (h : IntsM lo w (.slice a n c) xs) : xs.length ≤ c := by
  obtain ⟨_, ⟨e, h0⟩ | ⟨g, cap, cur, e, _, _, hn, _⟩⟩ := h
  · rw [h0]; exact Nat.zero_le _
  · cases e; exact hn
theorem IntsM.ints {lo : Nat} {w : World} {v : Value} {xs : List Int} (h : IntsM lo w v xs) (hl : xs.length ≤ 9007199254740992) : Ints w v xs := by
  obtain ⟨h1, ⟨rfl, h0⟩ | ⟨g, cap, cur, rfl, _, hg, hnc, hcm, hcs, htk⟩⟩ := h
  · have : xs = [] := List.eq_nil_of_length_eq_zero h0
    subst this
    exact Ints.nil none 0
  · refine ⟨hl, .inr ⟨g, 0, cap, rfl, hnc, (Array.getElem?_eq_some_iff.1 hg).1, fun k hk => ?_⟩⟩
    have e : (cur.toList.take (xs.length * 1))[k]? = some (Value.int .i64 (nth xs k)) := by
      rw [htk, nth_eq hk]; simp [hk]
    rw [List.getElem?_take, if_pos (by omega)] at e
    simp only [World.cell?, hg, Nat.zero_add]
    simpa using e
theorem IntsM.kept {lo : Nat} {w w' : World} {v : Value} {xs : List Int} (h : IntsM lo w v xs) {r : Option Nat} (hg : w.grownBy w' r) (hne : v.ownBlock = none ∨ v.ownBlock ≠ r) : IntsM lo w' v xs := World.ownsRow.kept h hg hne
theorem IntsM.later {lo : Nat} {w : World} {v : Value} {xs : List Int} (h : IntsM lo w v xs) (x : Later w) : IntsM lo x.w v xs :=
  h.kept (r := none) ⟨x.le.os, x.le.tape, x.le.output, x.size, fun k hk _ => x.le.block k hk⟩ (by cases hv : v.ownBlock <;> simp)
theorem IntsM.mono {lo lo' : Nat} {w : World} {v : Value} {xs : List Int} (h : IntsM lo w v xs) (hl : lo' ≤ lo) : IntsM lo' w v xs := by
  obtain ⟨h1, h2⟩ := h
  refine ⟨h1, h2.imp id ?_⟩
  rintro ⟨g, cap, cur, hv, hg, r⟩
  exact ⟨g, cap, cur, hv, by omega, r⟩
theorem IntsM.below {lo : Nat} {w w' : World} {v : Value} {xs : List Int} (h : IntsM lo w v xs) (hg : w.grownBy w' v.ownBlock) (hlo : lo ≤ w.heap.size) : Below lo w w' :=
  (Below.refl lo w).grown hg hlo fun k hk => (World.ownsRow.lt h k hk).1
/-- []int{} -/
theorem IntsM.empty (w : World) {lo b : Nat} (hb : b = w.heap.size) (hlo : lo ≤ w.heap.size) : IntsM lo (w.alloc (.cells #[] 3)) (.slice (some ⟨b, 0, none⟩) 0 0) [] := by
  subst hb; exact World.ownsRow_made w #[] 0 hlo (by simp [maxLen]) rfl

theorem src_intsM {w : World} {x : Value} {ys : List Int} (hx : Ints w x ys) (i : TypeInfo) (hsz : i.size = 1) : Src Try.prog i.size 22 x ys.length (ys.map (Value.int .i64)) w := by
  obtain ⟨_, ⟨rfl, a, cap, rfl⟩ | ⟨b, off, cap, rfl, hcp, hlt, hc⟩⟩ := hx
  · cases a with
    | none => exact Src.ofNil w (e' := 3) Try.underlying22 cap
    | some ad => exact Src.ofSlice w (e' := 3) Try.underlying22 ad 0 cap [] (by simp) (by simp) (by simp)
  · refine Src.ofSlice w (e' := 3) Try.underlying22 ⟨b, off, none⟩ ys.length cap (ys.map (Value.int .i64)) (by rw [hsz]; simp) (fun j u hj => ?_) (fun u hu => ?_)
    · rw [List.getElem?_map] at hj
      obtain ⟨y, hy, rfl⟩ := Option.map_eq_some_iff.1 hj
      have hjl := (List.getElem?_eq_some_iff.1 hy).1
      have := hc j hjl
      rw [nth_eq hjl, (List.getElem?_eq_some_iff.1 hy).2] at this
      rw [Addr.add_lit]
      exact this
    · obtain ⟨y, _, rfl⟩ := List.mem_map.1 hu; rfl

/-- append(v, x...) -/
theorem run_app_intsM (w : World) (lo : Nat) (v x : Value) (xs ys : List Int) (hv : IntsM lo w v xs) (hx : Ints w x ys) (hlo : lo ≤ w.heap.size) (hbig : xs.length + ys.length ≤ 1000000000000) (ty : TypeId) :
    ∃ v' w', (Builtin.append_ #[22, 22] ty #[v, x]).run Try.prog w = .ok v' w' ∧ IntsM lo w' v' (xs ++ ys) ∧ w.grownBy w' v.ownBlock := by
  obtain ⟨i, hi, hz, hsz, hby⟩ := info_intM
  have hs := src_intsM hx i hsz
  by_cases hy : ys = []
  · subst hy
    obtain ⟨a, c, rfl⟩ := hv.form
    refine ⟨_, w, run_append_nothing w _ _ ty _ i Try.underlying22 hi a xs.length c hv.cap _ hs, ?_, ⟨rfl, rfl, rfl, Nat.le_refl _, fun _ _ _ => rfl⟩⟩
    rw [List.append_nil]; exact hv
  · obtain ⟨b, off, cap, rfl, hcp, hlt, hc⟩ := hx.at (k := 0) (by cases ys with | nil => exact absurd rfl hy | cons _ _ => simp)
    obtain ⟨v', w', hrun, hown2, hg2, _⟩ := run_append_own w lo 22 ty 3 i (.int .i64 0) 1 8 Try.underlying22 hi hz hsz hby rfl (by decide) v xs.length _ hv ⟨b, off, none⟩ ys.length cap
      (ys.map (Value.int .i64)) (by simp) (by
        intro j u hj
        rw [List.getElem?_map] at hj
        obtain ⟨y, hy, rfl⟩ := Option.map_eq_some_iff.1 hj
        have hjl := (List.getElem?_eq_some_iff.1 hy).1
        have := hc j hjl
        rw [nth_eq hjl, (List.getElem?_eq_some_iff.1 hy).2] at this
        rw [Addr.add_lit]
        exact this) (by
        intro u hu
        obtain ⟨k, _, rfl⟩ := List.mem_map.1 hu
        rfl) (by simp only [maxLen]; omega) (by omega) hlo
    refine ⟨v', w', hrun, ?_, hg2⟩
    rw [← List.map_append, ← List.length_append] at hown2
    exact hown2
/-- append(v, y) -/
theorem run_app_intM (w : World) (lo : Nat) (v : Value) (xs : List Int) (b c : Nat) (y : Int) (hv : IntsM lo w v xs) (hb : w.cell? ⟨b, 0, none⟩ = some (.int .i64 y)) (hc : 1 ≤ c) (hlo : lo ≤ w.heap.size) (hbig : xs.length + 1 ≤ 1000000000000) (ty : TypeId) :
    ∃ v' w', (Builtin.append_ #[22, 22] ty #[v, .slice (some ⟨b, 0, none⟩) 1 c]).run Try.prog w = .ok v' w' ∧ IntsM lo w' v' (xs ++ [y]) ∧ w.grownBy w' v.ownBlock := by
  refine run_app_intsM w lo v _ xs [y] hv ⟨by simp, .inr ⟨b, 0, c, rfl, hc, World.block_lt_of_cell? w ⟨b, 0, none⟩ hb, fun k hk => ?_⟩⟩ hlo hbig ty
  obtain rfl : k = 0 := by simpa using hk
  exact hb

/-- append(v, y) at a world behind W, of which v is made anew -/
theorem app_int_stepM {W wr : World} (hB : Below W.heap.size W wr) {v : Value} {xs : List Int} (hA : IntsM W.heap.size wr v xs) (y : Int) (hbig : xs.length + 1 ≤ 1000000000000) (ty : TypeId) :
    ∃ v', ∃ q : Later W, (Builtin.append_ #[22, 22] ty #[v, .slice (some ⟨wr.heap.size, 0, none⟩) 1 1]).run Try.prog (wr.alloc (.cells #[.int .i64 y] 3)) = .ok v' q.w ∧ IntsM W.heap.size q.w v' (xs ++ [y]) ∧ wr.grownBy q.w v.ownBlock := by
  have hA' := hA.later (Later.new wr (.cells #[.int .i64 y] 3))
  rw [Later.new_w] at hA'
  obtain ⟨v', w', h1, h2, h3⟩ := run_app_intM (wr.alloc (.cells #[.int .i64 y] 3)) W.heap.size v xs wr.heap.size 1 y hA' (by simp [go_sem]) (Nat.le_refl _) (by have := hB.size; simp; omega) hbig ty
  have hb := hA'.below h3 (by have := hB.size; simp; omega)
  exact ⟨v', ⟨w', ((hB.alloc hB.size _).trans hb)⟩, h1, h2, ⟨h3.os, h3.tape, h3.output, Nat.le_trans (by simp) h3.size, fun k hk hne => (h3.block k (by simp; omega) hne).trans (Below.heap_alloc _ _ k hk)⟩⟩
/-- append(v, x...) -/
theorem app_ints_stepM {W wr : World} (hB : Below W.heap.size W wr) {v x : Value} {xs ys : List Int} (hA : IntsM W.heap.size wr v xs) (hx : Ints wr x ys) (hbig : xs.length + ys.length ≤ 1000000000000) (ty : TypeId) :
    ∃ v', ∃ q : Later W, (Builtin.append_ #[22, 22] ty #[v, x]).run Try.prog wr = .ok v' q.w ∧ IntsM W.heap.size q.w v' (xs ++ ys) ∧ wr.grownBy q.w v.ownBlock := by
  obtain ⟨v', w', h1, h2, h3⟩ := run_app_intsM wr W.heap.size v x xs ys hA hx hB.size hbig ty
  exact ⟨v', ⟨w', hB.trans (hA.below h3 hB.size)⟩, h1, h2, h3⟩
/-- append([]int{}, x...) changes nothing that was there -/
theorem app_emptyM {u : World} {lo E : Nat} (hE : IntsM lo u (.slice (some ⟨E, 0, none⟩) 0 0) []) {x : Value} {ys : List Int} (hx : Ints u x ys) (hlo : lo ≤ u.heap.size) (hbig : ys.length ≤ 1000000000000) (ty : TypeId) :
    ∃ a n c, ∃ q : Later u, (Builtin.append_ #[22, 22] ty #[.slice (some ⟨E, 0, none⟩) 0 0, x]).run Try.prog u = .ok (.slice a n c) q.w ∧ IntsM lo q.w (.slice a n c) ys := by
  obtain ⟨v', w', h1, h2, h3⟩ := run_app_intsM u lo _ x [] ys hE hx hlo (by simpa using hbig) ty
  rw [List.nil_append] at h2
  obtain ⟨a, n, c, rfl⟩ := h2.form'
  obtain ⟨i, hi, hz, hsz, hby⟩ := info_intM
  by_cases hy : ys = []
  · have hs := src_intsM hx i hsz
    have h4 := run_append_nothing u _ _ ty _ i Try.underlying22 hi (some ⟨E, 0, none⟩) 0 0 (Nat.le_refl _) x (hy ▸ hs)
    obtain ⟨_, rfl⟩ := ok_inj (h4.symm.trans h1)
    exact ⟨a, n, c, Later.self _, h1, h2⟩
  · obtain ⟨b, off, cap, rfl, hcp, hlt, hc⟩ := hx.at (k := 0) (by cases ys with | nil => exact absurd rfl hy | cons _ _ => simp)
    have hl : 0 < ys.length := by cases ys with | nil => exact absurd rfl hy | cons _ _ => simp
    have h4 := run_append_grow (P := Try.prog) u 22 ty 3 i (.int .i64 0) Try.underlying22 hi hz ⟨E, 0, none⟩ 0 0 [] (by simp) (by simp) ⟨b, off, none⟩ ys.length cap
      (ys.map (Value.int .i64)) (by rw [hsz]; simp) (by
        intro j v hj
        rw [List.getElem?_map] at hj
        obtain ⟨y, hy, rfl⟩ := Option.map_eq_some_iff.1 hj
        have hjl := (List.getElem?_eq_some_iff.1 hy).1
        have := hc j hjl
        rw [nth_eq hjl, (List.getElem?_eq_some_iff.1 hy).2] at this
        rw [Addr.add_lit]
        exact this) (by omega) (by omega) (growslice_fits (by omega) (by rw [hby]; omega))
    obtain ⟨_, e⟩ := ok_inj (h4.symm.trans h1)
    subst e
    exact ⟨a, n, c, (Later.draw u).step (Later.new _ _), h1, h2⟩
theorem IntsM.of_block {w : World} {lo E : Nat} (hlo : lo ≤ E) (h : w.heap[E]? = some (.cells #[] 3)) : IntsM lo w (.slice (some ⟨E, 0, none⟩) 0 0) [] :=
  ⟨rfl, .inr ⟨E, 0, #[], rfl, hlo, h, Nat.le_refl _, by simp [maxLen], rfl, rfl⟩⟩
/-- a store into a list of one's own -/
theorem IntsM.set {w : World} {lo n c : Nat} {a : Option Addr} {xs : List Int} (h : IntsM lo w (.slice a n c) xs) {k : Nat} (hk : k < xs.length) (y : Int) :
    ∃ g, a = some ⟨g, 0, none⟩ ∧ n = xs.length ∧ lo ≤ g ∧ g < w.heap.size ∧ n ≤ c ∧ w.frozen? ⟨g, k, none⟩ = false ∧ w.cell? ⟨g, k, none⟩ = some (.int .i64 (nth xs k)) ∧ IntsM lo (w.setCell ⟨g, k, none⟩ (.int .i64 y)) (.slice a n c) (xs.set k y) ∧ w.grownBy (w.setCell ⟨g, k, none⟩ (.int .i64 y)) (some g) := by
  have hown := h
  rcases h.2 with ⟨e, h0⟩ | ⟨g, cap, cur, e, hb, hg, hnc, hcm, hcs, htk⟩
  · omega
  · cases e
    obtain ⟨hst, hgr⟩ := World.ownsRow.stored (show w.ownsRow lo 3 1 _ _ _ from hown) k (.int .i64 y)
    refine ⟨g, rfl, rfl, hb, (Array.getElem?_eq_some_iff.1 hg).1, hnc, World.ownsRow.frozenAt (show w.ownsRow lo 3 1 _ _ _ from hown) k, ?_, ?_, hgr⟩
    · rw [World.ownsRow.cellAt (show w.ownsRow lo 3 1 _ _ _ from hown) k (by omega), nth_eq hk]
      simp [hk]
    · show World.ownsRow _ _ _ _ _ _ _
      rw [List.length_set, List.map_set]
      exact hst

end Go.Proofs.Ytpkgfkeekcgkcaa


/-  The orders of a region with many operations: off a table, so that the kernel has little to reckon. -/
namespace Go.Proofs.Ytpkgfkeekcgkcaa

/-- what counts of an operation for the orders: on which it waits, what it writes, where it looks -/
structure Tab where
  after : List Nat
  dst : Option Nat
  looks : List Nat
def tabOp (ops : Array Oper) (o : Oper) : Tab := ⟨(o.after.toList.filter (Region.binds .any)).map (·.on), o.dst, o.looksAt ops⟩
def Tab.apart (x y : Tab) : Bool := (match x.dst with | some d => !y.looks.contains d && y.dst != some d | none => true) && (match y.dst with | some d => !x.looks.contains d | none => true)
def tabChk : List Tab → Nat → Bool
  | [], _ => true
  | t :: r, k => t.after.all (fun j => Nat.blt j k) && r.all (fun u => u.after.contains k || t.apart u) && tabChk r (k + 1)
theorem tab_apart (ops : Array Oper) (x y : Oper) : (tabOp ops x).apart (tabOp ops y) = x.apart ops y := rfl
theorem tab_any (ops : Array Oper) (o : Oper) (k : Nat) : (tabOp ops o).after.contains k = o.after.any (fun e => Region.binds .any e && e.on == k) := by
  rw [Bool.eq_iff_iff, List.contains_iff_mem, Array.any_eq_true']
  simp only [tabOp, List.mem_map, List.mem_filter, Array.mem_toList_iff, Bool.and_eq_true, beq_iff_eq, and_assoc]
theorem lexFrom_tab (ops : Array Oper) : ∀ (r pre : List Oper) (listed : Array Bool), ops.toList = pre ++ r → (∀ j d, j < ops.size → listed.getD j d = decide (j < pre.length)) → listed.size = ops.size →
    tabChk (r.map (tabOp ops)) pre.length = true → Region.lexFrom .any ops r.length pre.length listed = true
  | [], pre, listed, he, hl, _, _ => by
    have hsz : ops.size = pre.length := by rw [← Array.length_toList, he]; simp
    show (Region.ready .any ops listed).isEmpty = true
    rw [List.isEmpty_iff]
    refine List.eq_nil_iff_forall_not_mem.2 fun j hj => ?_
    obtain ⟨h1, o, h2, _⟩ := mem_ready.1 hj
    have hlt := (Array.getElem?_eq_some_iff.1 h2).1
    rw [hl j true hlt, decide_eq_false_iff_not] at h1
    omega
  | o :: r, pre, listed, he, hl, hsz, hc => by
    have hn : ops.size = pre.length + (r.length + 1) := by rw [← Array.length_toList, he]; simp
    have ho : ops[pre.length]? = some o := by rw [← Array.getElem?_toList, he]; simp
    simp only [List.map_cons, tabChk, Bool.and_eq_true] at hc
    obtain ⟨⟨h1, h2⟩, h3⟩ := hc
    show ((Region.ready .any ops listed).contains pre.length && Region.free .any ops listed pre.length && Region.lexFrom .any ops r.length (pre.length + 1) (listed.setIfInBounds pre.length true)) = true
    rw [Bool.and_eq_true, Bool.and_eq_true]
    refine ⟨⟨?_, ?_⟩, ?_⟩
    · rw [List.contains_iff_mem]
      refine mem_ready.2 ⟨by rw [hl _ true (by omega)]; simp, o, ho, fun e he' hb => ?_⟩
      have := List.all_eq_true.1 h1 e.on (List.mem_map.2 ⟨e, List.mem_filter.2 ⟨Array.mem_toList_iff.2 he', hb⟩, rfl⟩)
      have hlt : e.on < pre.length := by simpa using this
      rw [hl _ false (by omega), decide_eq_true hlt]
    · unfold Region.free
      rw [ho]
      refine List.all_eq_true.2 fun j hj => ?_
      rw [List.mem_range] at hj
      rw [Bool.or_eq_true, Bool.or_eq_true, beq_iff_eq, hl j true hj, decide_eq_true_iff]
      by_cases hjk : j ≤ pre.length
      · exact .inl (by omega)
      · right
        obtain ⟨i, hi⟩ : ∃ i, j = pre.length + (i + 1) := ⟨j - pre.length - 1, by omega⟩
        have hir : i < r.length := by omega
        have hoj : ops[j]? = some r[i] := by
          rw [← Array.getElem?_toList, he, hi, List.getElem?_append_right (by omega)]
          simp [hir]
        rw [hoj]
        have := List.all_eq_true.1 h2 (tabOp ops r[i]) (List.mem_map.2 ⟨r[i], List.getElem_mem hir, rfl⟩)
        rw [tab_any, tab_apart] at this
        exact this
    · have := lexFrom_tab ops r (pre ++ [o]) (listed.setIfInBounds pre.length true) (by rw [he]; simp) (fun j d hj => ?_) (by rw [Array.size_setIfInBounds]; exact hsz) (by rw [List.length_append]; exact h3)
      · rw [List.length_append] at this
        exact this
      · have h := hl j d hj
        rw [List.length_append, List.length_singleton]
        simp only [Array.getD_eq_getD_getElem?] at h ⊢
        rw [Array.getElem?_setIfInBounds]
        by_cases e : pre.length = j
        · subst e
          rw [if_pos rfl, if_pos (by omega)]
          simp
        · rw [if_neg e, h, Bool.eq_iff_iff, decide_eq_true_iff, decide_eq_true_iff]
          omega
theorem lexB_tab {l : List Oper} (T : List Tab) (hs : Region.noSelect l.toArray = true) (hT : l.map (tabOp l.toArray) = T) (hc : tabChk T 0 = true) : Region.lexB .any l.toArray = true := by
  rw [Region.lexB, hs, Bool.true_and]
  subst hT
  have := lexFrom_tab l.toArray l [] (Array.replicate l.toArray.size false) rfl (fun j d hj => by
    have hj' : j < l.length := by simpa using hj
    simp [Array.getD_eq_getD_getElem?, hj']) (by simp) hc
  simpa using this

/-- A slice of bytes that reads as a list of numbers. -/
def Byts (w : World) (v : Value) (xs : List Int) : Prop :=
  xs.length ≤ 9007199254740992 ∧ (∀ k, k < xs.length → 0 ≤ nth xs k ∧ nth xs k ≤ 255) ∧ ((xs = [] ∧ ∃ a cap, v = .slice a 0 cap) ∨
    ∃ b off cap, v = .slice (some ⟨b, off, none⟩) xs.length cap ∧ xs.length ≤ cap ∧ b < w.heap.size ∧ ∀ k, k < xs.length → w.cell? ⟨b, off + k, none⟩ = some (.int .u8 (nth xs k)))
theorem Byts.later {w : World} {v : Value} {xs : List Int} (h : Byts w v xs) (x : Later w) : Byts x.w v xs := by
  obtain ⟨h1, h3, h2 | ⟨b, off, cap, hv, hl, hb, hc⟩⟩ := h
  · exact ⟨h1, h3, .inl h2⟩
  · exact ⟨h1, h3, .inr ⟨b, off, cap, hv, hl, Nat.lt_of_lt_of_le hb x.size, fun k hk => (x.cell hb).trans (hc k hk)⟩⟩
theorem Byts.form {w : World} {v : Value} {xs : List Int} (h : Byts w v xs) : ∃ a cap, v = .slice a xs.length cap := by
  obtain ⟨h1, _, ⟨rfl, a, cap, rfl⟩ | ⟨b, off, cap, rfl, _⟩⟩ := h
  · exact ⟨a, cap, rfl⟩
  · exact ⟨_, cap, rfl⟩
theorem Byts.at {w : World} {v : Value} {xs : List Int} (h : Byts w v xs) {k : Nat} (hk : k < xs.length) :
    ∃ b off cap, v = .slice (some ⟨b, off, none⟩) xs.length cap ∧ xs.length ≤ cap ∧ b < w.heap.size ∧ ∀ k, k < xs.length → w.cell? ⟨b, off + k, none⟩ = some (.int .u8 (nth xs k)) := by
  obtain ⟨h1, _, ⟨rfl, _⟩ | h2⟩ := h
  · simp at hk
  · exact h2
end Go.Proofs.Ytpkgfkeekcgkcaa

/-
  A region that draws its order of evaluation, walked once in the order of its text: its operations yield the same in every later world, or make a new block, or are ordered among each other by the region's own edges. Plain law over any program.
-/
namespace Go.Proofs.Ytpkgfkeekcgkcaa
open Go.RowKit
namespace Mix
section
variable {P : Program} {ops : Array Oper}

def F3 : Exit → Act → World → Prop := fun _ _ _ => False

theorem wp_put_out {o : Oper} {a : Act} {w : World} {d : Option Tmp} {v : Value} {K : Act → World → Prop} (hs : ∀ cs b, o.op ≠ .select cs b)
    (h1 : ∀ t, d = some t → t ∉ o.looksAt ops) (h2 : ∀ t, d = some t → o.dst ≠ some t) (h : o.wp P (a.put d v) w K F3) :
    o.wp P a w (fun a' w' => K (a'.put d v) w') F3 := by
  unfold Oper.wp at *
  rw [execOp_put o hs a d v h1] at h
  generalize (execOp a.eval o).run P w = r at *
  cases r with
  | ok n w' =>
    cases n <;> simp only [Oper.upon] at h ⊢
    case value u => rw [← Act.put_comm a v u h2]; exact h
    case skip => rw [← Act.put_comm a v undef h2]; exact h
    case defer q => rw [← Act.put_comm _ v undef h2, ← Act.put_defers]; exact h
    case enter f args =>
      refine Calls.mono h fun e w'' he => ?_
      cases e with
      | returned u => show K _ _; rw [← Act.put_comm a v u h2]; exact he
      | panicked c => exact he
      | outgrown => exact he
    case row row args => exact Rows.mono h fun u w'' he => by show K _ _; rw [← Act.put_comm a v u h2]; exact he
  | halt x w' => cases x <;> simp only [Oper.upon] at h ⊢ <;> exact h

theorem wp_put_in {o : Oper} {a : Act} {w : World} {d : Option Tmp} {v : Value} {K : Act → World → Prop} (hs : ∀ cs b, o.op ≠ .select cs b)
    (h1 : ∀ t, d = some t → t ∉ o.looksAt ops) (h2 : ∀ t, d = some t → o.dst ≠ some t) (h : o.wp P a w (fun a' w' => K (a'.put d v) w') F3) :
    o.wp P (a.put d v) w K F3 := by
  unfold Oper.wp at *
  rw [execOp_put o hs a d v h1]
  generalize (execOp a.eval o).run P w = r at *
  cases r with
  | ok n w' =>
    cases n <;> simp only [Oper.upon] at h ⊢
    case value u => rw [Act.put_comm a v u h2]; exact h
    case skip => rw [Act.put_comm a v undef h2]; exact h
    case defer q => rw [Act.put_defers, Act.put_comm _ v undef h2]; exact h
    case enter f args =>
      refine Calls.mono h fun e w'' he => ?_
      cases e with
      | returned u => show K _ _; rw [Act.put_comm a v u h2]; exact he
      | panicked c => exact he
      | outgrown => exact he
    case row row args => exact Rows.mono h fun u w'' he => by show K _ _; rw [Act.put_comm a v u h2]; exact he
  | halt x w' => cases x <;> simp only [Oper.upon] at h ⊢ <;> exact h

/-- What an operation comes to, once. -/
theorem wp_witness {o : Oper} {a : Act} {w : World} {K : Act → World → Prop} (h : o.wp P a w K F3) : ∃ ds u w', K (({ a with defers := ds } : Act).put o.dst u) w' := by
  unfold Oper.wp at h
  generalize (execOp a.eval o).run P w = r at *
  cases r with
  | ok n w' =>
    cases n <;> simp only [Oper.upon] at h
    case value u => exact ⟨a.defers, u, w', h⟩
    case skip => exact ⟨a.defers, undef, w', h⟩
    case defer q => exact ⟨_, undef, w', h⟩
    case enter f args =>
      obtain ⟨e, w'', fr, he, _⟩ := h []
      cases e with
      | returned u => exact ⟨a.defers, u, w'', he⟩
      | panicked c => exact he.elim
      | outgrown => obtain ⟨_, _, h⟩ := he; exact h.elim
    case row row args =>
      obtain ⟨u, w'', he, _⟩ := h default []
      exact ⟨a.defers, u, w'', he⟩
  | halt x w' => cases x <;> simp only [Oper.upon] at h <;> exact h.elim

theorem wp_mono_act {o : Oper} {a : Act} {w : World} {K K' : Act → World → Prop} (h : o.wp P a w K F3)
    (hk : ∀ ds u w', K (({ a with defers := ds } : Act).put o.dst u) w' → K' (({ a with defers := ds } : Act).put o.dst u) w') : o.wp P a w K' F3 := by
  unfold Oper.wp at *
  generalize (execOp a.eval o).run P w = r at *
  cases r with
  | ok n w' =>
    cases n <;> simp only [Oper.upon] at h ⊢
    case value u => exact hk a.defers u _ h
    case skip => exact hk a.defers undef _ h
    case defer q => exact hk _ undef _ h
    case enter f args =>
      refine Calls.mono h fun e w'' he => ?_
      cases e with
      | returned u => exact hk a.defers u _ he
      | panicked c => exact he
      | outgrown => exact he
    case row row args => exact Rows.mono h fun u w'' he => hk a.defers u _ he
  | halt x w' => cases x <;> simp only [Oper.upon] at h ⊢ <;> exact h

theorem wp_of_F3 {o : Oper} {a : Act} {w : World} {K : Act → World → Prop} {Q' : Exit → Act → World → Prop} (h : o.wp P a w K F3) : o.wp P a w K Q' := by
  unfold Oper.wp at *
  generalize (execOp a.eval o).run P w = r at *
  cases r with
  | ok n w' =>
    cases n <;> simp only [Oper.upon] at h ⊢
    case value u => exact h
    case skip => exact h
    case defer q => exact h
    case enter f args =>
      refine Calls.mono h fun e w'' he => ?_
      cases e with
      | returned u => exact he
      | panicked c => exact he.elim
      | outgrown => obtain ⟨_, _, h⟩ := he; exact h.elim
    case row row args => exact h
  | halt x w' => cases x <;> simp only [Oper.upon] at h ⊢ <;> exact h.elim

/-- An operation that makes one new block, and yields what points at it. -/
def AllocAs (P : Program) (o : Oper) (a : Act) (mk : Nat → Value) (ob : Obj) : Prop := ∀ w : World, (execOp a.eval o).run P w = .ok (.value (mk w.heap.size)) (w.alloc ob)

inductive Cls where
  | val | new | loud | last
  deriving DecidableEq

def C0 (W0 : World) (w : World) : Prop := ∃ x : Later W0, w = x.w

def Good (P : Program) (ops : Array Oper) (W0 : World) (cls : Nat → Cls) (Q : Act → World → Prop) : List Nat → Act → World → Prop
  | [], a, w => ∀ x : Later w, Q a x.w
  | i :: rest, a, w => ∀ o, ops[i]? = some o →
      (Region.wanted o (yielded ops a.tmps) = true ∧ cls i = .loud ∧ ∀ x : Later w, o.wp P a x.w (fun a' w' => (∃ y : Later x.w, w' = y.w) ∧ Good P ops W0 cls Q rest a' w') F3) ∨
      ((Region.wanted o (yielded ops a.tmps) = true → cls i = .val) ∧ ∃ v, YieldsIf P ops (C0 W0) o v a ∧ Good P ops W0 cls Q rest (a.put o.dst v) w) ∨
      (Region.wanted o (yielded ops a.tmps) = true ∧ cls i = .new ∧ ∃ mk ob, AllocAs P o a mk ob ∧
        ∀ (b : Nat) (x : Later w), W0.heap.size ≤ b → x.w.heap[b]? = some ob → Good P ops W0 cls Q rest (a.put o.dst (mk b)) x.w) ∨
      (Region.wanted o (yielded ops a.tmps) = true ∧ cls i = .last ∧ (∀ j ∈ rest, cls j = .last) ∧ ∀ x : Later w, o.wp P a x.w (fun a' w' => Good P ops W0 cls Q rest a' w') F3)

variable {W0 : World} {cls : Nat → Cls} {Q : Act → World → Prop}

theorem Good.later : ∀ {l : List Nat} {a : Act} {w : World}, Good P ops W0 cls Q l a w → ∀ x : Later w, Good P ops W0 cls Q l a x.w
  | [], _, _, h, x => fun y => h (x.step y)
  | i :: rest, a, w, h, x => fun o ho => by
    rcases h o ho with ⟨h1, h2, h3⟩ | ⟨h1, v, h2, h3⟩ | ⟨h1, h2, mk, ob, h3, h4⟩ | ⟨h1, h2, h3, h4⟩
    · exact .inl ⟨h1, h2, fun y => h3 (x.step y)⟩
    · exact .inr (.inl ⟨h1, v, h2, h3.later x⟩)
    · exact .inr (.inr (.inl ⟨h1, h2, mk, ob, h3, fun b y hb hy => h4 b (x.step y) hb hy⟩))
    · exact .inr (.inr (.inr ⟨h1, h2, h3, fun y => h4 (x.step y)⟩))

theorem C0.self (W0 : World) : C0 W0 W0 := ⟨Later.self _, rfl⟩
theorem C0.later {w : World} (h : C0 W0 w) (x : Later w) : C0 W0 x.w := by
  obtain ⟨y, rfl⟩ := h
  exact ⟨y.step x, rfl⟩
theorem C0.size {w : World} (h : C0 W0 w) : W0.heap.size ≤ w.heap.size := by
  obtain ⟨y, rfl⟩ := h
  exact y.size

theorem yieldsIf_unique {o : Oper} {a : Act} {v v' : Value} (h : YieldsIf P ops (C0 W0) o v a) (h' : YieldsIf P ops (C0 W0) o v' a) : v = v' := by
  rcases h with ⟨h1, h2⟩ | ⟨h1, rfl⟩ <;> rcases h' with ⟨h1', h2'⟩ | ⟨h1', rfl⟩
  · have e1 := h2 W0 (C0.self _)
    have e2 := h2' W0 (C0.self _)
    rw [e1] at e2
    cases e2; rfl
  · rw [h1] at h1'; cases h1'
  · rw [h1] at h1'; cases h1'
  · rfl

theorem yieldsIf_put {o : Oper} {a : Act} {v u : Value} {d : Option Tmp} (hs : ∀ cs b, o.op ≠ .select cs b) (h1 : ∀ t, d = some t → t ∉ o.looksAt ops) :
    YieldsIf P ops (C0 W0) o v (a.put d u) ↔ YieldsIf P ops (C0 W0) o v a := by
  unfold YieldsIf
  rw [execOp_put o hs a d u h1, wanted_put o a d u h1]

theorem allocAs_put {o : Oper} {a : Act} {u : Value} {d : Option Tmp} {mk : Nat → Value} {ob : Obj} (hs : ∀ cs b, o.op ≠ .select cs b) (h1 : ∀ t, d = some t → t ∉ o.looksAt ops) :
    AllocAs P o (a.put d u) mk ob ↔ AllocAs P o a mk ob := by
  unfold AllocAs
  rw [execOp_put o hs a d u h1]

theorem size_any (n : Nat) : ∃ w : World, w.heap.size = n := ⟨{ (default : World) with heap := Array.replicate n default }, by simp⟩

theorem allocAs_unique {o : Oper} {a : Act} {mk mk' : Nat → Value} {ob ob' : Obj} (h : AllocAs P o a mk ob) (h' : AllocAs P o a mk' ob') : (∀ n, mk n = mk' n) ∧ ob = ob' := by
  refine ⟨fun n => ?_, ?_⟩
  · obtain ⟨w, rfl⟩ := size_any n
    have e := (h w).symm.trans (h' w)
    simp only [Result.ok.injEq, Next.value.injEq] at e
    exact e.1
  · have e := (h default).symm.trans (h' default)
    simp only [Result.ok.injEq] at e
    have e2 := congrArg World.heap e.2
    simp only [World.alloc] at e2
    exact (Array.push_eq_push.1 e2).1

/-- What is pulled ahead of the rest. -/
def Pulled (P : Program) (ops : Array Oper) (W0 : World) (cls : Nat → Cls) (Q : Act → World → Prop) (i : Nat) (o : Oper) (l : List Nat) (a : Act) (w : World) : Prop :=
  (Region.wanted o (yielded ops a.tmps) = true ∧ cls i = .loud ∧ ∀ x : Later w, o.wp P a x.w (fun a' w' => (∃ y : Later x.w, w' = y.w) ∧ Good P ops W0 cls Q l a' w') F3) ∨
  ((Region.wanted o (yielded ops a.tmps) = true → cls i = .val) ∧ ∃ v, YieldsIf P ops (C0 W0) o v a ∧ Good P ops W0 cls Q l (a.put o.dst v) w) ∨
  (Region.wanted o (yielded ops a.tmps) = true ∧ cls i = .new ∧ ∃ mk ob, AllocAs P o a mk ob ∧
    ∀ (b : Nat) (x : Later w), W0.heap.size ≤ b → x.w.heap[b]? = some ob → Good P ops W0 cls Q l (a.put o.dst (mk b)) x.w) ∨
  (Region.wanted o (yielded ops a.tmps) = true ∧ cls i = .last ∧ (∀ j ∈ l, cls j = .last) ∧ ∀ x : Later w, o.wp P a x.w (fun a' w' => Good P ops W0 cls Q l a' w') F3)

theorem wanted_defers (o : Oper) (a : Act) (ds : List Deferred) : Region.wanted o (yielded ops ({ a with defers := ds } : Act).tmps) = Region.wanted o (yielded ops a.tmps) := rfl

theorem pull {i : Nat} {oi : Oper} (hoi : ops[i]? = some oi) (hsel : ∀ (j : Nat) (o : Oper) cs b, ops[j]? = some o → o.op ≠ .select cs b) :
    ∀ (l1 l2 : List Nat) (a : Act) (w : World), (l1 ≠ [] → C0 W0 w) → (∀ k ∈ l1, ∃ ok, ops[k]? = some ok ∧ ok.apart ops oi = true ∧ (cls k ≠ .val → cls i ≠ .loud) ∧ cls i ≠ .last) →
      Good P ops W0 cls Q (l1 ++ i :: l2) a w → Pulled P ops W0 cls Q i oi (l1 ++ l2) a w
  | [], l2, a, w, _, _, h => h oi hoi
  | k :: l1, l2, a, w, hw, hap, h => by
    have hw := hw (by simp)
    have hsi := fun cs b => hsel i oi cs b hoi
    obtain ⟨ok, hok, hapk, hcl, hla⟩ := hap k (by simp)
    have hsk := fun cs b => hsel k ok cs b hok
    obtain ⟨hA, hB, hC⟩ := Oper.apart_spec hapk
    -- hA: k's slot is not looked at by i; hB: other slots; hC: i's slot is not looked at by k
    have hB' : ∀ t, oi.dst = some t → ok.dst ≠ some t := fun t ht hk => hB t hk ht
    have ih := fun (a : Act) (w : World) (hw : C0 W0 w) => pull hoi hsel l1 l2 a w (fun _ => hw) (fun k' hk' => hap k' (by simp [hk']))
    have wi : ∀ (a : Act) u, Region.wanted oi (yielded ops (a.put ok.dst u).tmps) = Region.wanted oi (yielded ops a.tmps) := fun a u => wanted_put oi a ok.dst u hA
    have wk : ∀ (a : Act) u, Region.wanted ok (yielded ops (a.put oi.dst u).tmps) = Region.wanted ok (yielded ops a.tmps) := fun a u => wanted_put ok a oi.dst u hC
    rcases h ok hok with ⟨k1, k2, k3⟩ | ⟨k1, vk, k2, k3⟩ | ⟨k1, k2, mk, ob, k3, k4⟩ | ⟨_, _, k3, _⟩
    · -- k is loud
      have hil : cls i ≠ .loud := hcl (by rw [k2]; simp)
      obtain ⟨ds, u, w1, ⟨y1, hy1⟩, hg⟩ := wp_witness (k3 (Later.self w))
      have hw1 : C0 W0 w1 := by rw [hy1]; exact (hw.later (Later.self w)).later y1
      rcases ih _ _ hw1 hg with ⟨_, i2, _⟩ | ⟨i1, v, i2, _⟩ | ⟨i1, i2, mk, ob, i3, _⟩ | ⟨_, i2, _⟩
      rotate_left 3
      · exact absurd i2 hla
      · exact absurd i2 hil
      · refine .inr (.inl ⟨fun hwn => i1 (by rw [wi]; exact hwn), v, ?_, ?_⟩)
        · exact (yieldsIf_put (a := { a with defers := ds }) hsi hA).1 i2
        · have hyi : YieldsIf P ops (C0 W0) oi v a := (yieldsIf_put (a := { a with defers := ds }) hsi hA).1 i2
          intro o ho
          obtain rfl : ok = o := Option.some.inj (hok.symm.trans ho)
          refine .inl ⟨by rw [wk]; exact k1, k2, fun x => wp_put_in hsk hC hB' ?_⟩
          refine wp_mono_act (k3 x) ?_
          rintro ds' u' w' ⟨⟨y, hy⟩, hg'⟩
          refine ⟨⟨y, hy⟩, ?_⟩
          have hw' : C0 W0 w' := by rw [hy]; exact (hw.later x).later y
          rcases ih _ _ hw' hg' with ⟨_, j2, _⟩ | ⟨j1, v', j2, j3⟩ | ⟨j1, j2, _⟩ | ⟨_, j2, _⟩
          rotate_left 3
          · exact absurd j2 hla
          · exact absurd j2 hil
          · have e : v = v' := yieldsIf_unique hyi ((yieldsIf_put (a := { a with defers := ds' }) hsi hA).1 j2)
            rw [e]; exact j3
          · rw [wi] at j1
            exact absurd (i1 (by rw [wi]; exact j1)) (by rw [j2]; simp)
      · refine .inr (.inr (.inl ⟨by rw [wi] at i1; exact i1, i2, mk, ob, (allocAs_put (a := { a with defers := ds }) hsi hA).1 i3, ?_⟩))
        have hai : AllocAs P oi a mk ob := (allocAs_put (a := { a with defers := ds }) hsi hA).1 i3
        intro b x hb hx o ho
        obtain rfl : ok = o := Option.some.inj (hok.symm.trans ho)
        refine .inl ⟨by rw [wk]; exact k1, k2, fun x2 => wp_put_in hsk hC hB' ?_⟩
        refine wp_mono_act (k3 (x.step x2)) ?_
        rintro ds' u' w' ⟨⟨y, hy⟩, hg'⟩
        refine ⟨⟨y, hy⟩, ?_⟩
        have hw' : C0 W0 w' := by rw [hy]; exact (hw.later (x.step x2)).later y
        have hbw : w'.heap[b]? = some ob := by
          have hlt : b < x.w.heap.size := (Array.getElem?_eq_some_iff.1 hx).1
          rw [hy]
          exact (y.le.block b (Nat.lt_of_lt_of_le hlt x2.size)).trans ((x2.le.block b hlt).trans hx)
        rcases ih _ _ hw' hg' with ⟨_, j2, _⟩ | ⟨j1, v', j2, j3⟩ | ⟨j1, j2, mk', ob', j3, j4⟩ | ⟨_, j2, _⟩
        rotate_left 3
        · exact absurd j2 hla
        · exact absurd j2 hil
        · have hwn : Region.wanted oi (yielded ops a.tmps) = true := by rw [wi] at i1; exact i1
          exact absurd (j1 (by rw [wi]; exact hwn)) (by rw [i2]; simp)
        · obtain ⟨e1, e2⟩ := allocAs_unique hai ((allocAs_put (a := { a with defers := ds' }) hsi hA).1 j3)
          rw [e1 b]
          exact j4 b (Later.self _) hb (by rw [← e2]; exact hbw)
    · -- k yields a value
      rcases ih _ _ hw k3 with ⟨i1, i2, i3⟩ | ⟨i1, v, i2, i3⟩ | ⟨i1, i2, mk, ob, i3, i4⟩ | ⟨_, i2, _⟩
      rotate_left 3
      · exact absurd i2 hla
      · refine .inl ⟨by rw [wi] at i1; exact i1, i2, fun x => ?_⟩
        refine wp_mono_act (wp_put_out hsi hA (fun t ht => hB t ht) (i3 x)) ?_
        rintro ds' u' w' ⟨hy, hg'⟩
        refine ⟨hy, fun o ho => ?_⟩
        obtain rfl : ok = o := Option.some.inj (hok.symm.trans ho)
        exact .inr (.inl ⟨fun hwn => k1 (by rw [wk] at hwn; exact hwn), vk, (yieldsIf_put (a := { a with defers := ds' }) hsk hC).2 k2, hg'⟩)
      · refine .inr (.inl ⟨fun hwn => i1 (by rw [wi]; exact hwn), v, (yieldsIf_put hsi hA).1 i2, fun o ho => ?_⟩)
        obtain rfl : ok = o := Option.some.inj (hok.symm.trans ho)
        refine .inr (.inl ⟨fun hwn => k1 (by rw [wk] at hwn; exact hwn), vk, (yieldsIf_put hsk hC).2 k2, ?_⟩)
        rw [← Act.put_comm a vk v hB]
        exact i3
      · refine .inr (.inr (.inl ⟨by rw [wi] at i1; exact i1, i2, mk, ob, (allocAs_put hsi hA).1 i3, fun b x hb hx o ho => ?_⟩))
        obtain rfl : ok = o := Option.some.inj (hok.symm.trans ho)
        refine .inr (.inl ⟨fun hwn => k1 (by rw [wk] at hwn; exact hwn), vk, (yieldsIf_put hsk hC).2 k2, ?_⟩)
        rw [← Act.put_comm a vk (mk b) hB]
        exact i4 b x hb hx
    · -- k makes a block
      have first := ih _ _ (hw.later (Later.new w ob)) (k4 w.heap.size (Later.new w ob) hw.size (heap_alloc_new w ob))
      rcases first with ⟨i1, i2, _⟩ | ⟨i1, v, i2, _⟩ | ⟨i1, i2, mi, obi, i3, _⟩ | ⟨_, i2, _⟩
      rotate_left 3
      · exact absurd i2 hla
      · exact absurd i2 (hcl (by rw [k2]; simp))
      · have hyi : YieldsIf P ops (C0 W0) oi v a := (yieldsIf_put hsi hA).1 i2
        refine .inr (.inl ⟨fun hwn => i1 (by rw [wi]; exact hwn), v, hyi, fun o ho => ?_⟩)
        obtain rfl : ok = o := Option.some.inj (hok.symm.trans ho)
        refine .inr (.inr (.inl ⟨by rw [wk]; exact k1, k2, mk, ob, (allocAs_put hsk hC).2 k3, fun b x hb hx => ?_⟩))
        rcases ih _ _ (hw.later x) (k4 b x hb hx) with ⟨j1, j2, _⟩ | ⟨j1, v', j2, j3⟩ | ⟨j1, j2, _⟩ | ⟨_, j2, _⟩
        rotate_left 3
        · exact absurd j2 hla
        · rw [wi] at j1
          exact absurd (i1 (by rw [wi]; exact j1)) (by rw [j2]; simp)
        · have e : v = v' := yieldsIf_unique hyi ((yieldsIf_put hsi hA).1 j2)
          rw [← Act.put_comm a (mk b) v hB, e]
          exact j3
        · rw [wi] at j1
          exact absurd (i1 (by rw [wi]; exact j1)) (by rw [j2]; simp)
      · have hai : AllocAs P oi a mi obi := (allocAs_put hsi hA).1 i3
        have hwn : Region.wanted oi (yielded ops a.tmps) = true := by rw [wi] at i1; exact i1
        refine .inr (.inr (.inl ⟨hwn, i2, mi, obi, hai, fun b x hb hx o ho => ?_⟩))
        obtain rfl : ok = o := Option.some.inj (hok.symm.trans ho)
        refine .inr (.inr (.inl ⟨by rw [wk]; exact k1, k2, mk, ob, (allocAs_put hsk hC).2 k3, fun b' x' hb' hx' => ?_⟩))
        rcases ih _ _ (hw.later (x.step x')) (k4 b' (x.step x') hb' hx') with ⟨_, j2, _⟩ | ⟨j1, _⟩ | ⟨j1, j2, mk', ob', j3, j4⟩ | ⟨_, j2, _⟩
        rotate_left 3
        · exact absurd j2 hla
        · rw [i2] at j2; cases j2
        · exact absurd (j1 (by rw [wi]; exact hwn)) (by rw [i2]; simp)
        · obtain ⟨e1, e2⟩ := allocAs_unique hai ((allocAs_put hsi hA).1 j3)
          rw [← Act.put_comm a (mk b') (mi b) hB, e1 b]
          refine j4 b (Later.self _) hb ?_
          have hlt : b < x.w.heap.size := (Array.getElem?_eq_some_iff.1 hx).1
          rw [← e2, ← hx]
          exact x'.le.block b hlt
    · -- k is the last
      exact absurd (k3 i (by simp)) hla

/-- k comes before i by the region's edges (c: the closure of the edges, as bits), or they have nothing to do with one another. -/
def sepB (ops : Array Oper) (c : Array Nat) (cls : Nat → Cls) (k i : Nat) : Bool :=
  (c.getD i 0).testBit k || (match ops[k]?, ops[i]? with
    | some ok, some oi => ok.apart ops oi && (cls k == .val || cls i != .loud) && cls i != .last
    | _, _ => false)
def pairsB (r : Nat → Nat → Bool) : List Nat → Bool
  | [] => true
  | k :: l => l.all (r k) && !l.contains k && pairsB r l
theorem pairsB_spec {r : Nat → Nat → Bool} : ∀ {l : List Nat}, pairsB r l = true → l.Pairwise (fun k i => r k i = true ∧ k ≠ i)
  | [], _ => .nil
  | k :: l, h => by
    simp only [pairsB, Bool.and_eq_true, List.all_eq_true, Bool.not_eq_true', List.contains_eq_mem, decide_eq_false_iff_not] at h
    exact .cons (fun i hi => ⟨h.1.1 i hi, fun e => h.1.2 (e ▸ hi)⟩) (pairsB_spec h.2)
def edgesB (ops : Array Oper) : Bool := (List.range ops.size).all fun i => match ops[i]? with
  | some o => o.after.all fun e => !Region.binds .any e || decide (e.on < i)
  | none => true
def certB (ops : Array Oper) (c : Array Nat) : Bool := (List.range ops.size).all fun i => match ops[i]? with
  | some o => (List.range ops.size).all fun k => !(c.getD i 0).testBit k || o.after.toList.any fun e => Region.binds .any e && (e.on == k || (c.getD e.on 0).testBit k)
  | none => true
def mixB (ops : Array Oper) (order : List Nat) (cls : Nat → Cls) : Bool :=
  Region.noSelect ops && edgesB ops && certB ops (Region.before ops) && pairsB (sepB ops (Region.before ops) cls) order && (List.range ops.size).all order.contains && order.all (fun i => decide (i < ops.size))

theorem edgesB_spec (h : edgesB ops = true) {i : Nat} {o : Oper} (ho : ops[i]? = some o) : ∀ e ∈ o.after, Region.binds .any e = true → e.on < i := by
  simp only [edgesB, List.all_eq_true, List.mem_range] at h
  have h1 := h i (Array.getElem?_eq_some_iff.1 ho).1
  simp only [ho, Array.all_eq_true_iff_forall_mem, Bool.or_eq_true, Bool.not_eq_true', decide_eq_true_eq] at h1
  intro e he hb
  rcases h1 e he with h2 | h2
  · rw [hb] at h2; cases h2
  · exact h2

/-- What comes before an operation that may come up has come up. -/
theorem cert_listed {c : Array Nat} {listed : Array Bool} (hE : edgesB ops = true) (hC : certB ops c = true)
    (hdown : ∀ j o, ops[j]? = some o → listed.getD j true = true → ∀ e ∈ o.after, Region.binds .any e = true → listed.getD e.on true = true) :
    ∀ (n i : Nat) (o : Oper), i < n → ops[i]? = some o → (∀ e ∈ o.after, Region.binds .any e = true → listed.getD e.on true = true) →
      ∀ k, k < ops.size → (c.getD i 0).testBit k = true → listed.getD k true = true
  | 0, _, _, h, _, _ => absurd h (Nat.not_lt_zero _)
  | n + 1, i, o, hi, ho, hall => by
    intro k hk hbit
    have hC' := hC
    simp only [certB, List.all_eq_true, List.mem_range] at hC'
    have h1 := hC' i (Array.getElem?_eq_some_iff.1 ho).1
    simp only [ho, List.all_eq_true, List.mem_range] at h1
    have h2 := h1 k hk
    rw [hbit] at h2
    simp only [Bool.not_true, Bool.false_or, List.any_eq_true, Array.mem_toList_iff, Bool.and_eq_true, Bool.or_eq_true, beq_iff_eq] at h2
    obtain ⟨e, he, hb, hon⟩ := h2
    rcases hon with rfl | hon
    · exact hall e he hb
    · have hlt := edgesB_spec hE ho e he hb
      have hlt2 : e.on < ops.size := Nat.lt_trans hlt (Array.getElem?_eq_some_iff.1 ho).1
      obtain ⟨oe, hoe⟩ : ∃ oe, ops[e.on]? = some oe := ⟨ops[e.on], by simp [hlt2]⟩
      exact cert_listed hE hC hdown n e.on oe (by omega) hoe (hdown e.on oe hoe (hall e he hb)) k hk hon

theorem split_mem {i : Nat} : ∀ {l : List Nat}, i ∈ l → ∃ l1 l2, l = l1 ++ i :: l2
  | k :: l, h => by
    rcases List.mem_cons.1 h with rfl | h
    · exact ⟨[], l, rfl⟩
    · obtain ⟨l1, l2, rfl⟩ := split_mem h
      exact ⟨k :: l1, l2, rfl⟩

theorem any_of_good {Q' : Exit → Act → World → Prop} (hs : Region.noSelect ops = true) (hE : edgesB ops = true) (hC : certB ops (Region.before ops) = true) :
    ∀ (n : Nat) (rem : List Nat) (listed : Array Bool) (a : Act) (w : World), rem.length = n → ((∃ i ∈ rem, cls i ≠ .last) → C0 W0 w) → listed.size = ops.size →
      rem.Pairwise (fun k i => sepB ops (Region.before ops) cls k i = true ∧ k ≠ i) → (∀ i, i ∈ rem ↔ i < ops.size ∧ listed.getD i true = false) →
      (∀ j o, ops[j]? = some o → listed.getD j true = true → ∀ e ∈ o.after, Region.binds .any e = true → listed.getD e.on true = true) →
      Good P ops W0 cls (fun a w => Q' .normal a w) rem a w → wpAny P .any ops Q' n listed a w
  | 0, rem, listed, a, w, hn, _, _, _, hmem, _, hg => by
    obtain rfl : rem = [] := List.eq_nil_of_length_eq_zero hn
    refine ⟨?_, hg (Later.self w)⟩
    rw [List.eq_nil_iff_forall_not_mem]
    intro i hi
    obtain ⟨h0, o, ho, _⟩ := mem_ready.1 hi
    exact absurd ((hmem i).2 ⟨(Array.getElem?_eq_some_iff.1 ho).1, h0⟩) (by simp)
  | n + 1, rem, listed, a, w, hn, hw, hsz, hpw, hmem, hdown, hg => by
    refine ⟨fun hr => ?_, fun i hi => ?_⟩
    · exfalso
      -- the least of what is left may come up
      have key : ∀ m i, i < m → i ∈ rem → False := by
        intro m
        induction m with
        | zero => intro i h; exact absurd h (Nat.not_lt_zero _)
        | succ m ih =>
          intro i him hir
          obtain ⟨hi1, hi2⟩ := (hmem i).1 hir
          have hready : i ∈ Region.ready .any ops listed := by
            refine mem_ready.2 ⟨hi2, ops[i], by simp [hi1], fun e he hb => ?_⟩
            have hlt := edgesB_spec hE (i := i) (o := ops[i]) (by simp [hi1]) e he hb
            have hlt2 : e.on < listed.size := by rw [hsz]; omega
            cases hl : listed.getD e.on true
            · exact (ih e.on (by omega) ((hmem e.on).2 ⟨by omega, hl⟩)).elim
            · simpa [hlt2] using hl
          rw [hr] at hready
          cases hready
      match rem, hn with
      | i :: rest, _ => exact key (i + 1) i (by omega) (by simp)
    · obtain ⟨h0, oi, hoi, hdep⟩ := mem_ready.1 hi
      have hi1 : i < ops.size := (Array.getElem?_eq_some_iff.1 hoi).1
      have hdep' : ∀ e ∈ oi.after, Region.binds .any e = true → listed.getD e.on true = true := fun e he hb => by
        have hh := hdep e he hb
        have hlt := edgesB_spec hE hoi e he hb
        have hlt2 : e.on < listed.size := by rw [hsz]; omega
        simpa [hlt2] using hh
      obtain ⟨l1, l2, rfl⟩ := split_mem ((hmem i).2 ⟨hi1, h0⟩)
      have hap : ∀ k ∈ l1, ∃ ok, ops[k]? = some ok ∧ ok.apart ops oi = true ∧ (cls k ≠ .val → cls i ≠ .loud) ∧ cls i ≠ .last := by
        intro k hk
        obtain ⟨hk1, hk2⟩ := (hmem k).1 (by simp [hk])
        have hsep := ((List.pairwise_append.1 hpw).2.2 k hk i (by simp)).1
        refine ⟨ops[k], by simp [hk1], ?_⟩
        rw [sepB, Bool.or_eq_true] at hsep
        rcases hsep with hsep | hsep
        · have := cert_listed hE hC hdown (i + 1) i oi (by omega) hoi hdep' k hk1 hsep
          rw [hk2] at this
          cases this
        · simp only [hoi, hk1, getElem?_pos, Bool.and_eq_true, Bool.or_eq_true, beq_iff_eq, bne_iff_ne] at hsep
          exact ⟨hsep.1.1, fun hv => hsep.1.2.resolve_left hv, hsep.2⟩
      have hp := pull hoi (Region.noSelect_spec hs) l1 l2 a w (fun hne => by
        obtain ⟨k, hk⟩ := List.exists_mem_of_ne_nil _ hne
        obtain ⟨_, _, _, _, h4⟩ := hap k hk
        exact hw ⟨i, by simp, h4⟩) hap hg
      have hpw' : (l1 ++ l2).Pairwise (fun k i => sepB ops (Region.before ops) cls k i = true ∧ k ≠ i) :=
        hpw.sublist (List.Sublist.append_left (List.sublist_cons_self i l2) l1)
      have hnot : i ∉ l1 ++ l2 := by
        intro hmi
        rcases List.mem_append.1 hmi with hm | hm
        · exact ((List.pairwise_append.1 hpw).2.2 i hm i (by simp)).2 rfl
        · exact ((List.pairwise_cons.1 (List.pairwise_append.1 hpw).2.1).1 i hm).2 rfl
      have hlen : (l1 ++ l2).length = n := by simp at hn ⊢; omega
      have hmem' : ∀ j, j ∈ l1 ++ l2 ↔ j < ops.size ∧ (listed.setIfInBounds i true).getD j true = false := by
        intro j
        by_cases hji : j = i
        · subst hji
          refine ⟨fun h => absurd h hnot, fun h => ?_⟩
          have hlt2 : j < listed.size := by rw [hsz]; exact hi1
          simp [hlt2] at h
        · have e : (listed.setIfInBounds i true).getD j true = listed.getD j true := getD_set_ne true (Ne.symm hji)
          rw [e, ← hmem j]
          simp [hji]
      have hdown' : ∀ j o, ops[j]? = some o → (listed.setIfInBounds i true).getD j true = true → ∀ e ∈ o.after, Region.binds .any e = true → (listed.setIfInBounds i true).getD e.on true = true := by
        intro j o ho hl e he hb
        have up : listed.getD e.on true = true → (listed.setIfInBounds i true).getD e.on true = true := fun h => by
          by_cases hei : i = e.on
          · subst hei
            have hlt2 : e.on < listed.size := by rw [hsz]; exact hi1
            simp [hlt2]
          · rw [getD_set_ne true hei]; exact h
        by_cases hji : i = j
        · subst hji
          obtain rfl : oi = o := Option.some.inj (hoi.symm.trans ho)
          exact up (hdep' e he hb)
        · rw [getD_set_ne true hji] at hl
          exact up (hdown j o ho hl e he hb)
      have next := fun (a' : Act) (w' : World) (hw' : (∃ j ∈ l1 ++ l2, cls j ≠ .last) → C0 W0 w') (hg' : Good P ops W0 cls (fun a w => Q' .normal a w) (l1 ++ l2) a' w') =>
        any_of_good (Q' := Q') hs hE hC n (l1 ++ l2) (listed.setIfInBounds i true) a' w' hlen hw' (by simpa using hsz) hpw' hmem' hdown' hg'
      unfold wpOp
      simp only [hoi]
      rcases hp with ⟨h1, h2, h3⟩ | ⟨h1, v, h2, h3⟩ | ⟨h1, h2, mk, ob, h3, h4⟩ | ⟨h1, h2, h3, h4⟩
      · have hw := hw ⟨i, by simp, by rw [h2]; simp⟩
        rw [if_pos h1]
        refine .inl ?_
        have hx := Oper.wp_mono (K' := wpAny P .any ops Q' n (listed.setIfInBounds i true)) (fun a' w' h => next a' w' (fun _ => by obtain ⟨⟨y, hy⟩, _⟩ := h; rw [hy]; exact (hw.later (Later.self w)).later y) h.2) (h3 (Later.self w))
        exact wp_of_F3 hx
      · rcases h2 with ⟨hwn, hy⟩ | ⟨hwn, rfl⟩
        · have hw := hw ⟨i, by simp, by rw [h1 hwn]; simp⟩
          rw [if_pos hwn]
          refine .inl ?_
          simp only [Oper.wp, hy w hw, Oper.upon]
          exact next _ _ (fun _ => hw) h3
        · rw [if_neg (by rw [hwn]; simp)]
          exact next _ _ (fun ⟨j, hj, hc⟩ => hw ⟨j, by rcases List.mem_append.1 hj with h | h <;> simp [h], hc⟩) h3
      · have hw := hw ⟨i, by simp, by rw [h2]; simp⟩
        rw [if_pos h1]
        refine .inl ?_
        simp only [Oper.wp, h3 w, Oper.upon]
        exact next _ _ (fun _ => hw.later (Later.new w ob)) (h4 w.heap.size (Later.new w ob) hw.size (heap_alloc_new w ob))
      · rw [if_pos h1]
        refine .inl ?_
        have hx := Oper.wp_mono (K' := wpAny P .any ops Q' n (listed.setIfInBounds i true)) (fun a' w' h => next a' w' (fun ⟨j, hj, hc⟩ => absurd (h3 j hj) hc) h) (h4 (Later.self w))
        exact wp_of_F3 hx

/-- **A region that draws its order, walked once.** -/
theorem region_mix {id : Nat} {Q' : Exit → Act → World → Prop} {a : Act} {w : World} {l : List Oper} (order : List Nat) (cls : Nat → Cls) (hm : P.follows .mixedOrders = true)
    (hB : mixB l.toArray order cls = true) (h : Good P l.toArray w cls (fun a w => Q' .normal a w) order a w) : (Code.region id l.toArray true).wp P Q' a w := by
  simp only [mixB, Bool.and_eq_true] at hB
  obtain ⟨⟨⟨⟨⟨hs, hE⟩, hC⟩, hp⟩, hr⟩, ho⟩ := hB
  refine wp_region_any hm ?_
  have hlen : order.length = l.toArray.size := by
    have hnd : order.Nodup := (pairsB_spec hp).imp (fun h => h.2)
    have h1 : ∀ i, i ∈ order ↔ i ∈ List.range l.toArray.size := fun i => by
      rw [List.mem_range]
      rw [List.all_eq_true] at ho hr
      exact ⟨fun h => of_decide_eq_true (ho i h), fun h => by have := hr i (List.mem_range.2 h); simpa using this⟩
    have hperm := (List.perm_ext_iff_of_nodup hnd List.nodup_range).2 h1
    rw [hperm.length_eq, List.length_range]
  have := any_of_good (P := P) (W0 := w) (cls := cls) (Q' := Q') hs hE hC order.length order (Array.replicate l.toArray.size false) a { w with drawn := w.drawn + 1 } rfl (fun _ => ⟨Later.draw w, rfl⟩) (by simp) (pairsB_spec hp)
    (fun i => by
      rw [List.all_eq_true] at ho hr
      constructor
      · intro h
        have hlt := of_decide_eq_true (ho i h)
        exact ⟨hlt, by simp at hlt; simp [hlt]⟩
      · intro h
        have := hr i (List.mem_range.2 h.1)
        simpa using this)
    (fun j o hj hl => by
      have hlt : j < l.toArray.size := (Array.getElem?_eq_some_iff.1 hj).1
      simp at hlt
      simp [hlt] at hl)
    (h.later (Later.draw w))
  rw [hlen] at this
  exact this
end
end Mix
end Go.Proofs.Ytpkgfkeekcgkcaa

/-
  The steps of a walk through a region that draws its order (over the law of the text before).
-/
namespace Go.Proofs.Ytpkgfkeekcgkcaa
open Go.RowKit
namespace Mix
section
variable {P : Program} {ops : Array Oper} {W0 : World} {cls : Nat → Cls} {Q : Act → World → Prop} {i : Nat} {rest : List Nat} {a : Act} {w : World} {o : Oper}

/-- Operations that can yield nothing but a value. -/
def valOp : Op → Bool
  | .move _ | .assign _ | .pick .. | .load .. | .binOp .. | .unOp .. | .fieldAddr .. | .field .. | .indexAddr .. | .index .. | .slice .. | .build .. | .extract .. | .lookup .. | .makeFunc .. | .convert .. | .makeInterface .. => true
  | .nilCheck _ => true
  | .call { callee := .builtin .len, .. } => true
  | _ => false

theorem run_v {s : Sem Value} {n : Next} {w w' : World} (h : (s >>= fun x => (pure (Next.value x) : Sem Next)).run P w = .ok n w') : ∃ u, n = .value u := by
  rw [Sem.run_bind] at h
  cases hs : s.run P w with
  | ok u w1 =>
    rw [hs] at h
    simp only [Result.andThen_ok, Sem.run_pure, Result.ok.injEq] at h
    exact ⟨u, h.1.symm⟩
  | halt x w1 => rw [hs] at h; cases h

theorem valOp_run {o : Oper} (hv : valOp o.op = true) {ρ : Operand → Value} {n : Next} {w w' : World} (h : (execOp ρ o).run P w = .ok n w') : ∃ u, n = .value u := by
  obtain ⟨dst, op, ty, pos, after, guard⟩ := o
  cases op <;> simp only [valOp] at hv <;> simp only [execOp] at h
  case move x => simp only [Sem.run_pure, Result.ok.injEq] at h; exact ⟨_, h.1.symm⟩
  case assign x => simp only [Sem.run_pure, Result.ok.injEq] at h; exact ⟨_, h.1.symm⟩
  case pick c x y =>
    rw [Sem.run_bind] at h
    cases hs : (asBool (ρ c)).run P w with
    | ok u w1 =>
      rw [hs] at h
      simp only [Result.andThen_ok, Sem.run_pure, Result.ok.injEq] at h
      exact ⟨_, h.1.symm⟩
    | halt x w1 => rw [hs] at h; cases h
  case nilCheck x =>
    generalize ρ x = v at h
    split at h
    · cases h
    · cases h
    · cases h
    · split at h
      · cases h
      · rename_i t w0 _
        rw [Sem.run_bind] at h
        cases hs : (program : Sem Program).run P w with
        | ok q w1 =>
          rw [hs, Result.andThen_ok, Sem.run_bind] at h
          generalize (nilAhead _ t w0 _).run P w1 = r at h
          cases r with
          | ok q2 w2 =>
            simp only [Result.andThen_ok] at h
            split at h
            · exact absurd h (by simp [unsupported, Sem.run, Result.andThen])
            · simp only [Sem.run_pure, Result.ok.injEq] at h; exact ⟨_, h.1.symm⟩
          | halt x w2 => cases h
        | halt x w1 => rw [hs] at h; cases h
      · simp only [Sem.run_pure, Result.ok.injEq] at h; exact ⟨_, h.1.symm⟩
    · simp only [Sem.run_pure, Result.ok.injEq] at h; exact ⟨_, h.1.symm⟩
  case call c =>
    obtain ⟨callee, args, tys⟩ := c
    cases callee
    case builtin b =>
      cases b
      case len =>
        simp only [resolve, Sem.run_bind, Sem.run_pure, Result.andThen_ok, invoke, builtin] at h
        exact run_v (s := Builtin.len_ _ _ _) (by rw [Sem.run_bind]; exact h)
      all_goals cases hv
    all_goals cases hv
  all_goals first | exact run_v h | cases hv

/-- The same, of the operations themselves in the order of the text. -/
def GoodL (P : Program) (ops : Array Oper) (W0 : World) (cls : Nat → Cls) (Q : Act → World → Prop) : Nat → List Oper → Act → World → Prop
  | _, [], a, w => ∀ x : Later w, Q a x.w
  | i, o :: rest, a, w =>
      (Region.wanted o (yielded ops a.tmps) = true ∧ cls i = .loud ∧ ∀ x : Later w, o.wp P a x.w (fun a' w' => (∃ y : Later x.w, w' = y.w) ∧ GoodL P ops W0 cls Q (i + 1) rest a' w') F3) ∨
      ((Region.wanted o (yielded ops a.tmps) = true → cls i = .val) ∧ ∃ v, YieldsIf P ops (C0 W0) o v a ∧ GoodL P ops W0 cls Q (i + 1) rest (a.put o.dst v) w) ∨
      (Region.wanted o (yielded ops a.tmps) = true ∧ cls i = .new ∧ ∃ mk ob, AllocAs P o a mk ob ∧
        ∀ (b : Nat) (x : Later w), W0.heap.size ≤ b → x.w.heap[b]? = some ob → GoodL P ops W0 cls Q (i + 1) rest (a.put o.dst (mk b)) x.w) ∨
      (Region.wanted o (yielded ops a.tmps) = true ∧ cls i = .last ∧ (∀ j, j < rest.length → cls (i + 1 + j) = .last) ∧ ∀ x : Later w, o.wp P a x.w (fun a' w' => GoodL P ops W0 cls Q (i + 1) rest a' w') F3)

theorem good_of_goodL : ∀ (l : List Oper) (k : Nat) (a : Act) (w : World), (∀ j, l[j]? = ops[k + j]?) → GoodL P ops W0 cls Q k l a w → Good P ops W0 cls Q (List.range' k l.length) a w
  | [], _, _, _, _, h => h
  | o :: l, k, a, w, hl, h => by
    have h0 : ops[k]? = some o := by simpa using (hl 0).symm
    have hl' : ∀ j, l[j]? = ops[k + 1 + j]? := fun j => by have := hl (j + 1); simpa [Nat.add_assoc, Nat.add_comm 1 j] using this
    have ih := fun a w => good_of_goodL l (k + 1) a w hl'
    rw [List.length_cons, List.range'_succ]
    intro o' ho'
    obtain rfl : o = o' := Option.some.inj (h0.symm.trans ho')
    rcases h with ⟨h1, h2, h3⟩ | ⟨h1, v, h2, h3⟩ | ⟨h1, h2, mk, ob, h3, h4⟩ | ⟨h1, h2, hl2, h3⟩
    · exact .inl ⟨h1, h2, fun x => Oper.wp_mono (fun a' w' hh => ⟨hh.1, ih a' w' hh.2⟩) (h3 x)⟩
    · exact .inr (.inl ⟨h1, v, h2, ih _ _ h3⟩)
    · exact .inr (.inr (.inl ⟨h1, h2, mk, ob, h3, fun b x hb hx => ih _ _ (h4 b x hb hx)⟩))
    · exact .inr (.inr (.inr ⟨h1, h2, fun j hj => by
        obtain ⟨q, hq, rfl⟩ := List.mem_range'.1 hj
        simpa using hl2 q hq, fun x => Oper.wp_mono (fun a' w' hh => ih a' w' hh) (h3 x)⟩))

/-- **A region that draws its order, walked once, in the order of its text.** -/
theorem region_mixL {id : Nat} {Q' : Exit → Act → World → Prop} {a : Act} {w : World} {l : List Oper} (cls : Nat → Cls) (hm : P.follows .mixedOrders = true)
    (hB : mixB l.toArray (List.range' 0 l.length) cls = true) (h : GoodL P l.toArray w cls (fun a w => Q' .normal a w) 0 l a w) : (Code.region id l.toArray true).wp P Q' a w :=
  region_mix (List.range' 0 l.length) cls hm hB (good_of_goodL l 0 a w (fun j => by simp) h)

variable {rest : List Oper}
theorem skip (hw : Region.wanted o (yielded ops a.tmps) = false) (h : GoodL P ops W0 cls Q (i + 1) rest (a.put o.dst undef) w) : GoodL P ops W0 cls Q i (o :: rest) a w :=
  .inr (.inl ⟨fun h1 => (by rw [hw] at h1; cases h1), undef, .inr ⟨hw, rfl⟩, h⟩)

theorem val (hc : cls i = .val) (hv : valOp o.op = true) (hw : Region.wanted o (yielded ops a.tmps) = true)
    (h : ∀ K : Act → Prop, (∀ a', GoodL P ops W0 cls Q (i + 1) rest a' w → K a') → o.quiet P a (fun w' => ∃ x : Later W0, w' = x.w) K) : GoodL P ops W0 cls Q i (o :: rest) a w := by
  obtain ⟨v, h1, h2⟩ := h (fun a' => GoodL P ops W0 cls Q (i + 1) rest a' w) (fun _ h => h)
  refine .inr (.inl ⟨fun _ => hc, v, .inl ⟨hw, fun w' hw' => ?_⟩, h2⟩)
  have h3 := h1 w' hw'
  unfold Oper.quietAt at h3
  cases hr : (execOp a.eval o).run P w' with
  | ok n w1 =>
    obtain ⟨u, rfl⟩ := valOp_run hv hr
    rw [hr] at h3
    simp only [Oper.quietUpon] at h3
    rw [h3.1, h3.2]
  | halt x w1 => rw [hr] at h3; exact h3.elim

theorem loud (hc : cls i = .loud) (hw : Region.wanted o (yielded ops a.tmps) = true)
    (h : ∀ (x : Later w) (K : Act → World → Prop), (∀ (a' : Act) (y : Later x.w), GoodL P ops W0 cls Q (i + 1) rest a' y.w → K a' y.w) → o.wp P a x.w K F3) : GoodL P ops W0 cls Q i (o :: rest) a w :=
  .inl ⟨hw, hc, fun x => h x _ (fun _ y hg => ⟨⟨y, rfl⟩, hg⟩)⟩

theorem new (hc : cls i = .new) (hw : Region.wanted o (yielded ops a.tmps) = true) (mk : Nat → Value) (ob : Obj) (hal : AllocAs P o a mk ob)
    (h : ∀ (b : Nat) (x : Later w), W0.heap.size ≤ b → x.w.heap[b]? = some ob → GoodL P ops W0 cls Q (i + 1) rest (a.put o.dst (mk b)) x.w) : GoodL P ops W0 cls Q i (o :: rest) a w :=
  .inr (.inr (.inl ⟨hw, hc, mk, ob, hal, h⟩))

theorem last (hc : cls i = .last) (hw : Region.wanted o (yielded ops a.tmps) = true)
    (h : ∀ (x : Later w) (K : Act → World → Prop), (∀ (a' : Act) (w' : World), GoodL P ops W0 cls Q (i + 1) [] a' w' → K a' w') → o.wp P a x.w K F3) : GoodL P ops W0 cls Q i [o] a w :=
  .inr (.inr (.inr ⟨hw, hc, fun _ hj => absurd hj (Nat.not_lt_zero _), fun x => h x _ (fun _ _ hg => hg)⟩))
/-- an operation that may change what was there: behind it come such alone -/
theorem lastR (hc : cls i = .last) (hw : Region.wanted o (yielded ops a.tmps) = true) (hr : ∀ j, j < rest.length → cls (i + 1 + j) = .last)
    (h : ∀ (x : Later w) (K : Act → World → Prop), (∀ (a' : Act) (w' : World), GoodL P ops W0 cls Q (i + 1) rest a' w' → K a' w') → o.wp P a x.w K F3) : GoodL P ops W0 cls Q i (o :: rest) a w :=
  .inr (.inr (.inr ⟨hw, hc, hr, fun x => h x _ (fun _ _ hg => hg)⟩))

theorem put_undef {a : Act} {d : Tmp} (h : a.tmps.getD d undef = undef) : a.put (some d) undef = a := by
  obtain ⟨ts, ds⟩ := a
  simp only [Act.put, Act.mk.injEq, and_true]
  apply Array.ext_getElem?
  intro j
  by_cases hj : d = j
  · subst hj
    rw [Array.getElem?_setIfInBounds]
    by_cases hlt : d < ts.size
    · simp only [Array.getD_eq_getD_getElem?, hlt, getElem?_pos, Option.getD_some] at h
      simp [hlt, h]
    · simp [hlt]
  · rw [Array.getElem?_setIfInBounds_ne hj]
/-- .. is passed over, and its slot holds nothing. -/
theorem skipU {d : Tmp} (hw : Region.wanted o (yielded ops a.tmps) = false) (hd : o.dst = some d) (hu : a.tmps.getD d undef = undef) (h : GoodL P ops W0 cls Q (i + 1) rest a w) : GoodL P ops W0 cls Q i (o :: rest) a w :=
  skip hw (by rw [hd, put_undef hu]; exact h)
/-- There is one more. -/
theorem atCons (h : GoodL P ops W0 cls Q i (o :: rest) a w) : GoodL P ops W0 cls Q i (o :: rest) a w := h
/-- the kinds of operations, by three lists of numbers -/
def kinds (news louds lasts : List Nat) (i : Nat) : Cls := if louds.contains i then .loud else if news.contains i then .new else if lasts.contains i then .last else .val
theorem done (h : ∀ x : Later w, Q a x.w) : GoodL P ops W0 cls Q i [] a w := h
end
end Mix
end Go.Proofs.Ytpkgfkeekcgkcaa

/-  A region that draws its order, inside a fence and inside a round, whose operations call nothing: by the walk outside. Plain law over the model. -/
namespace Go.Proofs.Ytpkgfkeekcgkcaa
namespace Mix
variable {P : Program} {ops : Array Oper} {F : Fence} {n : Nat}
def inOp : Op → Bool
  | .move _ | .assign _ | .pick .. | .load .. | .binOp .. | .unOp .. | .fieldAddr .. | .field .. | .indexAddr .. | .index .. | .slice .. | .build .. | .extract .. | .lookup .. | .makeFunc .. | .convert .. | .makeInterface .. | .nilCheck _ | .store .. => true
  | _ => false
theorem inOp_about {o : Oper} (h : inOp o.op = true) (w : World) (ρ : Operand → Value) : o.about P w ρ = none := by
  obtain ⟨dst, op, ty, pos, after, guard⟩ := o
  cases op <;> first | rfl | cases h
theorem run_u {s : Sem Unit} {m : Next} {w w' : World} (h : (s >>= fun _ => (pure Next.skip : Sem Next)).run P w = .ok m w') : m = .skip := by
  rw [Sem.run_bind] at h
  cases hs : s.run P w with
  | ok u w1 =>
    rw [hs] at h
    simp only [Result.andThen_ok, Sem.run_pure, Result.ok.injEq] at h
    exact h.1.symm
  | halt x w1 => rw [hs] at h; cases h
theorem inOp_run {o : Oper} (hv : inOp o.op = true) {ρ : Operand → Value} {m : Next} {w w' : World} (h : (execOp ρ o).run P w = .ok m w') : (∃ u, m = .value u) ∨ m = .skip := by
  by_cases hs : valOp o.op = true
  · exact .inl (valOp_run hs h)
  · obtain ⟨dst, op, ty, pos, after, guard⟩ := o
    cases op <;> first | (exact absurd rfl hs) | (cases hv; done) | skip
    case store t a x => exact .inr (run_u (s := Instr.storeAt t (ρ a) (ρ x)) (by simpa only [execOp] using h))
def QN (Q : Act → World → Prop) : Exit → Act → World → Prop
  | .normal, a, w => Q a w
  | _, _, _ => False
theorem wpIn_of_wp {o : Oper} (hv : inOp o.op = true) {a : Act} {w : World} {K K' : Act → World → Prop} {Q : Act → World → Prop} {Q' : Exit → Act → World → Prop} (hk : ∀ a w, K a w → K' a w) (h : o.wp P a w K (QN Q)) : o.wpIn F n P a w K' Q' := by
  refine ⟨fun f hf => (by rw [inOp_about hv] at hf; cases hf), ?_⟩
  rw [Oper.semAt_eq _ _ _ (fun c e => by rw [e] at hv; cases hv)]
  unfold Oper.wp at h
  cases hr : (execOp a.eval o).run P w with
  | ok m w' =>
    rw [hr] at h
    rcases inOp_run hv hr with ⟨u, rfl⟩ | rfl
    · exact hk _ _ h
    · exact hk _ _ h
  | halt x w' =>
    rw [hr] at h
    cases x <;> first | exact h.elim | (simp only [Oper.upon] at h)
    all_goals exact h.elim
theorem anyIn_of_any {md : Region.Mode} {Q : Act → World → Prop} {Q' : Exit → Act → World → Prop} (hops : ∀ (i : Nat) (o : Oper), ops[i]? = some o → inOp o.op = true) (hQ : ∀ a w, Q a w → Q' .normal a w) :
    ∀ (fuel : Nat) (listed : Array Bool) (a : Act) (w : World), wpAny P md ops (QN Q) fuel listed a w → wpAnyIn F n P md ops Q' fuel listed a w
  | 0, _, _, _, h => ⟨h.1, hQ _ _ h.2⟩
  | fuel + 1, listed, a, w, h => by
    refine ⟨fun h0 => hQ _ _ (h.1 h0), fun i hi => ?_⟩
    have h1 := h.2 i hi
    have ih : ∀ a w, wpAny P md ops (QN Q) fuel (listed.setIfInBounds i true) a w → wpAnyIn F n P md ops Q' fuel (listed.setIfInBounds i true) a w := fun a w => anyIn_of_any hops hQ fuel _ a w
    unfold wpOp at h1
    unfold wpOpIn
    cases ho : ops[i]? with
    | none => rw [ho] at h1; exact ih _ _ h1
    | some o =>
      rw [ho] at h1
      have hv := hops i o ho
      dsimp only at h1 ⊢
      by_cases hw : Region.wanted o (yielded ops a.tmps) = true
      · rw [if_pos hw] at h1 ⊢
        rcases h1 with h1 | ⟨_, _, _, h2⟩
        · exact wpIn_of_wp hv ih h1
        · exact h2.elim
      · rw [if_neg hw] at h1 ⊢
        exact ⟨fun f hf => (by rw [inOp_about hv] at hf; cases hf), ih _ _ h1⟩
/-- **A region that draws its order, inside a fence (and a round): walked once, in the order of its text.** -/
theorem region_mixL_in {id : Nat} {Q' : Exit → Act → World → Prop} {a : Act} {w : World} {l : List Oper} (cls : Nat → Cls) (hm : P.follows .mixedOrders = true) (hin : l.all (fun o => inOp o.op) = true)
    (hB : mixB l.toArray (List.range' 0 l.length) cls = true) (h : GoodL P l.toArray w cls (fun a w => Q' .normal a w) 0 l a w) : (Code.region id l.toArray true).wpIn F n P Q' a w := by
  have hh := good_of_goodL l 0 a w (fun j => by simp) h
  simp only [mixB, Bool.and_eq_true] at hB
  obtain ⟨⟨⟨⟨⟨hs, hE⟩, hC⟩, hp⟩, hr⟩, ho⟩ := hB
  refine wpIn_region_any hm (anyIn_of_any (Q := fun a w => Q' .normal a w) (fun i o hi => ?_) (fun _ _ h => h) _ _ _ _ ?_)
  · have : o ∈ l := by
      have := Array.mem_of_getElem? hi
      simpa using this
    exact (List.all_eq_true.1 hin) o this
  have hlen : (List.range' 0 l.length).length = l.toArray.size := by simp
  have := any_of_good (P := P) (W0 := w) (cls := cls) (Q' := QN fun a w => Q' .normal a w) hs hE hC (List.range' 0 l.length).length (List.range' 0 l.length) (Array.replicate l.toArray.size false) a { w with drawn := w.drawn + 1 } rfl (fun _ => ⟨Later.draw w, rfl⟩) (by simp) (pairsB_spec hp)
    (fun i => by
      rw [List.all_eq_true] at ho hr
      constructor
      · intro h
        have hlt := of_decide_eq_true (ho i h)
        exact ⟨hlt, by simp at hlt; simp [hlt]⟩
      · intro h
        have := hr i (List.mem_range.2 h.1)
        simpa using this)
    (fun j o hj hl => by
      have hlt : j < l.toArray.size := (Array.getElem?_eq_some_iff.1 hj).1
      simp at hlt
      simp [hlt] at hl)
    (hh.later (Later.draw w))
  rw [hlen] at this
  exact this
end Mix
end Go.Proofs.Ytpkgfkeekcgkcaa

/- A region that draws its order, from its middle on, in an order of one's own. -/
namespace Go.Proofs.Ytpkgfkeekcgkcaa
open Go.RowKit
namespace Mix
section
variable {P : Program} {ops : Array Oper} {W0 : World} {cls : Nat → Cls} {Q : Act → World → Prop} {i : Nat} {rest : List Nat} {a : Act} {w : World}

theorem gcons (o : Oper) (ho : ops[i]? = some o)
    (h : (Region.wanted o (yielded ops a.tmps) = true ∧ cls i = .loud ∧ ∀ x : Later w, o.wp P a x.w (fun a' w' => (∃ y : Later x.w, w' = y.w) ∧ Good P ops W0 cls Q rest a' w') F3) ∨
      ((Region.wanted o (yielded ops a.tmps) = true → cls i = .val) ∧ ∃ v, YieldsIf P ops (C0 W0) o v a ∧ Good P ops W0 cls Q rest (a.put o.dst v) w) ∨
      (Region.wanted o (yielded ops a.tmps) = true ∧ cls i = .new ∧ ∃ mk ob, AllocAs P o a mk ob ∧
        ∀ (b : Nat) (x : Later w), W0.heap.size ≤ b → x.w.heap[b]? = some ob → Good P ops W0 cls Q rest (a.put o.dst (mk b)) x.w) ∨
      (Region.wanted o (yielded ops a.tmps) = true ∧ cls i = .last ∧ (∀ j ∈ rest, cls j = .last) ∧ ∀ x : Later w, o.wp P a x.w (fun a' w' => Good P ops W0 cls Q rest a' w') F3)) : Good P ops W0 cls Q (i :: rest) a w := fun o' ho' => by
  cases Option.some.inj (ho.symm.trans ho')
  exact h
theorem gloud (o : Oper) (ho : ops[i]? = some o) (hc : cls i = .loud) (hw : Region.wanted o (yielded ops a.tmps) = true)
    (h : ∀ (x : Later w) (K : Act → World → Prop), (∀ (a' : Act) (y : Later x.w), Good P ops W0 cls Q rest a' y.w → K a' y.w) → o.wp P a x.w K F3) : Good P ops W0 cls Q (i :: rest) a w :=
  gcons o ho (.inl ⟨hw, hc, fun x => h x _ (fun _ y hg => ⟨⟨y, rfl⟩, hg⟩)⟩)
theorem gnew (o : Oper) (ho : ops[i]? = some o) (hc : cls i = .new) (hw : Region.wanted o (yielded ops a.tmps) = true) (mk : Nat → Value) (ob : Obj) (hal : AllocAs P o a mk ob)
    (h : ∀ (b : Nat) (x : Later w), W0.heap.size ≤ b → x.w.heap[b]? = some ob → Good P ops W0 cls Q rest (a.put o.dst (mk b)) x.w) : Good P ops W0 cls Q (i :: rest) a w :=
  gcons o ho (.inr (.inr (.inl ⟨hw, hc, mk, ob, hal, h⟩)))
theorem glast (o : Oper) (ho : ops[i]? = some o) (hc : cls i = .last) (hw : Region.wanted o (yielded ops a.tmps) = true) (hr : ∀ j ∈ rest, cls j = .last)
    (h : ∀ (x : Later w) (K : Act → World → Prop), (∀ (a' : Act) (w' : World), Good P ops W0 cls Q rest a' w' → K a' w') → o.wp P a x.w K F3) : Good P ops W0 cls Q (i :: rest) a w :=
  gcons o ho (.inr (.inr (.inr ⟨hw, hc, hr, fun x => h x _ (fun _ _ hg => hg)⟩)))
theorem gdone (h : ∀ x : Later w, Q a x.w) : Good P ops W0 cls Q [] a w := h

def restB (ops : Array Oper) (listed : Array Bool) (rem : List Nat) (cls : Nat → Cls) (n : Nat) : Bool :=
  Region.noSelect ops && edgesB ops && certB ops (Region.before ops) && pairsB (sepB ops (Region.before ops) cls) rem && (listed.size == ops.size) && (rem.length == n) &&
    (List.range ops.size).all (fun i => rem.contains i == !listed.getD i true) && rem.all (fun i => decide (i < ops.size)) &&
    (List.range ops.size).all (fun j => !listed.getD j true || match ops[j]? with
      | some o => o.after.all fun e => !Region.binds .any e || listed.getD e.on true
      | none => true)
theorem any_rest {Q' : Exit → Act → World → Prop} {listed : Array Bool} {rem : List Nat} {n : Nat} (hB : restB ops listed rem cls n = true) (hw : C0 W0 w) (h : Good P ops W0 cls (fun a w => Q' .normal a w) rem a w) : wpAny P .any ops Q' n listed a w := by
  simp only [restB, Bool.and_eq_true] at hB
  obtain ⟨⟨⟨⟨⟨⟨⟨⟨hs, hE⟩, hC⟩, hp⟩, hsz⟩, hn⟩, hm⟩, ho⟩, hd⟩ := hB
  refine any_of_good hs hE hC n rem listed a w (by simpa using hn) (fun _ => hw) (by simpa using hsz) (pairsB_spec hp) (fun i => ?_) (fun j o hj hl e he hb => ?_) h
  · rw [List.all_eq_true] at hm ho
    constructor
    · intro hi
      have hlt := of_decide_eq_true (ho i hi)
      have := hm i (List.mem_range.2 hlt)
      rw [List.contains_iff_mem.2 hi] at this
      exact ⟨hlt, by simpa using this⟩
    · rintro ⟨hlt, hl⟩
      have := hm i (List.mem_range.2 hlt)
      rw [hl] at this
      simpa using this
  · rw [List.all_eq_true] at hd
    have := hd j (List.mem_range.2 (Array.getElem?_eq_some_iff.1 hj).1)
    rw [hl, hj] at this
    simp only [Bool.not_true, Bool.false_or] at this
    have := Array.all_eq_true'.1 this e he
    rw [hb] at this
    simpa using this
end
end Mix
end Go.Proofs.Ytpkgfkeekcgkcaa

/-  Regions that draw their order, once more: new blocks are told apart. -/
namespace Go.Proofs.Ytpkgfkeekcgkcaa
open Go.RowKit
namespace MixU
open Mix
section
variable {P : Program} {ops : Array Oper}
def cons (b : Nat) (U : Nat → Prop) (n : Nat) : Prop := n = b ∨ U n
def none0 : Nat → Prop := fun _ => False
theorem cons_comm (b c : Nat) (U : Nat → Prop) : cons b (cons c U) = cons c (cons b U) := funext fun n => propext ⟨fun h => by
    rcases h with h | h | h
    · exact .inr (.inl h)
    · exact .inl h
    · exact .inr (.inr h), fun h => by
    rcases h with h | h | h
    · exact .inr (.inl h)
    · exact .inl h
    · exact .inr (.inr h)⟩
def Good (P : Program) (ops : Array Oper) (W0 : World) (cls : Nat → Cls) (Q : Act → World → Prop) : (Nat → Prop) → List Nat → Act → World → Prop
  | _, [], a, w => ∀ x : Later w, Q a x.w
  | U, i :: rest, a, w => ∀ o, ops[i]? = some o →
      (Region.wanted o (yielded ops a.tmps) = true ∧ cls i = .loud ∧ ∀ x : Later w, o.wp P a x.w (fun a' w' => (∃ y : Later x.w, w' = y.w) ∧ Good P ops W0 cls Q U rest a' w') F3) ∨
      ((Region.wanted o (yielded ops a.tmps) = true → cls i = .val) ∧ ∃ v, YieldsIf P ops (C0 W0) o v a ∧ Good P ops W0 cls Q U rest (a.put o.dst v) w) ∨
      (Region.wanted o (yielded ops a.tmps) = true ∧ cls i = .new ∧ ∃ mk ob, AllocAs P o a mk ob ∧
        ∀ (b : Nat) (x : Later w), W0.heap.size ≤ b → ¬ U b → x.w.heap[b]? = some ob → Good P ops W0 cls Q (cons b U) rest (a.put o.dst (mk b)) x.w) ∨
      (Region.wanted o (yielded ops a.tmps) = true ∧ cls i = .last ∧ (∀ j ∈ rest, cls j = .last) ∧ ∀ x : Later w, o.wp P a x.w (fun a' w' => Good P ops W0 cls Q U rest a' w') F3)

variable {W0 : World} {cls : Nat → Cls} {Q : Act → World → Prop}

theorem Good.later : ∀ {U : Nat → Prop} {l : List Nat} {a : Act} {w : World}, Good P ops W0 cls Q U l a w → ∀ x : Later w, Good P ops W0 cls Q U l a x.w
  | _, [], _, _, h, x => fun y => h (x.step y)
  | _, i :: rest, a, w, h, x => fun o ho => by
    rcases h o ho with ⟨h1, h2, h3⟩ | ⟨h1, v, h2, h3⟩ | ⟨h1, h2, mk, ob, h3, h4⟩ | ⟨h1, h2, h3, h4⟩
    · exact .inl ⟨h1, h2, fun y => h3 (x.step y)⟩
    · exact .inr (.inl ⟨h1, v, h2, h3.later x⟩)
    · exact .inr (.inr (.inl ⟨h1, h2, mk, ob, h3, fun b y hb hu hy => h4 b (x.step y) hb hu hy⟩))
    · exact .inr (.inr (.inr ⟨h1, h2, h3, fun y => h4 (x.step y)⟩))

/-- What is pulled ahead of the rest. -/
def Pulled (P : Program) (ops : Array Oper) (W0 : World) (cls : Nat → Cls) (Q : Act → World → Prop) (U : Nat → Prop) (i : Nat) (o : Oper) (l : List Nat) (a : Act) (w : World) : Prop :=
  (Region.wanted o (yielded ops a.tmps) = true ∧ cls i = .loud ∧ ∀ x : Later w, o.wp P a x.w (fun a' w' => (∃ y : Later x.w, w' = y.w) ∧ Good P ops W0 cls Q U l a' w') F3) ∨
  ((Region.wanted o (yielded ops a.tmps) = true → cls i = .val) ∧ ∃ v, YieldsIf P ops (C0 W0) o v a ∧ Good P ops W0 cls Q U l (a.put o.dst v) w) ∨
  (Region.wanted o (yielded ops a.tmps) = true ∧ cls i = .new ∧ ∃ mk ob, AllocAs P o a mk ob ∧
    ∀ (b : Nat) (x : Later w), W0.heap.size ≤ b → ¬ U b → x.w.heap[b]? = some ob → Good P ops W0 cls Q (cons b U) l (a.put o.dst (mk b)) x.w) ∨
  (Region.wanted o (yielded ops a.tmps) = true ∧ cls i = .last ∧ (∀ j ∈ l, cls j = .last) ∧ ∀ x : Later w, o.wp P a x.w (fun a' w' => Good P ops W0 cls Q U l a' w') F3)

theorem pull {i : Nat} {oi : Oper} (hoi : ops[i]? = some oi) (hsel : ∀ (j : Nat) (o : Oper) cs b, ops[j]? = some o → o.op ≠ .select cs b) :
    ∀ (U : Nat → Prop) (l1 l2 : List Nat) (a : Act) (w : World), (l1 ≠ [] → C0 W0 w ∧ ∀ n, U n → n < w.heap.size) → (∀ k ∈ l1, ∃ ok, ops[k]? = some ok ∧ ok.apart ops oi = true ∧ (cls k ≠ .val → cls i ≠ .loud) ∧ cls i ≠ .last) →
      Good P ops W0 cls Q U (l1 ++ i :: l2) a w → Pulled P ops W0 cls Q U i oi (l1 ++ l2) a w
  | _, [], l2, a, w, _, _, h => h oi hoi
  | U, k :: l1, l2, a, w, hw0, hap, h => by
    obtain ⟨hw, hu⟩ := hw0 (by simp)
    have hsi := fun cs b => hsel i oi cs b hoi
    obtain ⟨ok, hok, hapk, hcl, hla⟩ := hap k (by simp)
    have hsk := fun cs b => hsel k ok cs b hok
    obtain ⟨hA, hB, hC⟩ := Oper.apart_spec hapk
    -- hA: k's slot is not looked at by i; hB: other slots; hC: i's slot is not looked at by k
    have hB' : ∀ t, oi.dst = some t → ok.dst ≠ some t := fun t ht hk => hB t hk ht
    have ih := fun (U : Nat → Prop) (a : Act) (w : World) (hw : C0 W0 w) (hu : ∀ n, U n → n < w.heap.size) => pull hoi hsel U l1 l2 a w (fun _ => ⟨hw, hu⟩) (fun k' hk' => hap k' (by simp [hk']))
    have wi : ∀ (a : Act) u, Region.wanted oi (yielded ops (a.put ok.dst u).tmps) = Region.wanted oi (yielded ops a.tmps) := fun a u => wanted_put oi a ok.dst u hA
    have wk : ∀ (a : Act) u, Region.wanted ok (yielded ops (a.put oi.dst u).tmps) = Region.wanted ok (yielded ops a.tmps) := fun a u => wanted_put ok a oi.dst u hC
    rcases h ok hok with ⟨k1, k2, k3⟩ | ⟨k1, vk, k2, k3⟩ | ⟨k1, k2, mk, ob, k3, k4⟩ | ⟨_, _, k3, _⟩
    · -- k is loud
      have hil : cls i ≠ .loud := hcl (by rw [k2]; simp)
      obtain ⟨ds, u, w1, ⟨y1, hy1⟩, hg⟩ := wp_witness (k3 (Later.self w))
      have hw1 : C0 W0 w1 := by rw [hy1]; exact (hw.later (Later.self w)).later y1
      have hu1 : ∀ n, U n → n < w1.heap.size := fun n hn => by rw [hy1]; exact Nat.lt_of_lt_of_le (hu n hn) (Nat.le_trans (Later.self w).size y1.size)
      rcases ih U _ _ hw1 hu1 hg with ⟨_, i2, _⟩ | ⟨i1, v, i2, _⟩ | ⟨i1, i2, mk, ob, i3, _⟩ | ⟨_, i2, _⟩
      rotate_left 3
      · exact absurd i2 hla
      · exact absurd i2 hil
      · refine .inr (.inl ⟨fun hwn => i1 (by rw [wi]; exact hwn), v, ?_, ?_⟩)
        · exact (yieldsIf_put (a := { a with defers := ds }) hsi hA).1 i2
        · have hyi : YieldsIf P ops (C0 W0) oi v a := (yieldsIf_put (a := { a with defers := ds }) hsi hA).1 i2
          intro o ho
          obtain rfl : ok = o := Option.some.inj (hok.symm.trans ho)
          refine .inl ⟨by rw [wk]; exact k1, k2, fun x => wp_put_in hsk hC hB' ?_⟩
          refine wp_mono_act (k3 x) ?_
          rintro ds' u' w' ⟨⟨y, hy⟩, hg'⟩
          refine ⟨⟨y, hy⟩, ?_⟩
          have hw' : C0 W0 w' := by rw [hy]; exact (hw.later x).later y
          have hu' : ∀ n, U n → n < w'.heap.size := fun n hn => by rw [hy]; exact Nat.lt_of_lt_of_le (hu n hn) (Nat.le_trans x.size y.size)
          rcases ih U _ _ hw' hu' hg' with ⟨_, j2, _⟩ | ⟨j1, v', j2, j3⟩ | ⟨j1, j2, _⟩ | ⟨_, j2, _⟩
          rotate_left 3
          · exact absurd j2 hla
          · exact absurd j2 hil
          · have e : v = v' := yieldsIf_unique hyi ((yieldsIf_put (a := { a with defers := ds' }) hsi hA).1 j2)
            rw [e]; exact j3
          · rw [wi] at j1
            exact absurd (i1 (by rw [wi]; exact j1)) (by rw [j2]; simp)
      · refine .inr (.inr (.inl ⟨by rw [wi] at i1; exact i1, i2, mk, ob, (allocAs_put (a := { a with defers := ds }) hsi hA).1 i3, ?_⟩))
        have hai : AllocAs P oi a mk ob := (allocAs_put (a := { a with defers := ds }) hsi hA).1 i3
        intro b x hb hub hx o ho
        obtain rfl : ok = o := Option.some.inj (hok.symm.trans ho)
        refine .inl ⟨by rw [wk]; exact k1, k2, fun x2 => wp_put_in hsk hC hB' ?_⟩
        refine wp_mono_act (k3 (x.step x2)) ?_
        rintro ds' u' w' ⟨⟨y, hy⟩, hg'⟩
        refine ⟨⟨y, hy⟩, ?_⟩
        have hw' : C0 W0 w' := by rw [hy]; exact (hw.later (x.step x2)).later y
        have hbw : w'.heap[b]? = some ob := by
          have hlt : b < x.w.heap.size := (Array.getElem?_eq_some_iff.1 hx).1
          rw [hy]
          exact (y.le.block b (Nat.lt_of_lt_of_le hlt x2.size)).trans ((x2.le.block b hlt).trans hx)
        have hu' : ∀ n, U n → n < w'.heap.size := fun n hn => by rw [hy]; exact Nat.lt_of_lt_of_le (hu n hn) (Nat.le_trans (x.step x2).size y.size)
        rcases ih U _ _ hw' hu' hg' with ⟨_, j2, _⟩ | ⟨j1, v', j2, j3⟩ | ⟨j1, j2, mk', ob', j3, j4⟩ | ⟨_, j2, _⟩
        rotate_left 3
        · exact absurd j2 hla
        · exact absurd j2 hil
        · have hwn : Region.wanted oi (yielded ops a.tmps) = true := by rw [wi] at i1; exact i1
          exact absurd (j1 (by rw [wi]; exact hwn)) (by rw [i2]; simp)
        · obtain ⟨e1, e2⟩ := allocAs_unique hai ((allocAs_put (a := { a with defers := ds' }) hsi hA).1 j3)
          rw [e1 b]
          exact j4 b (Later.self _) hb hub (by rw [← e2]; exact hbw)
    · -- k yields a value
      rcases ih U _ _ hw hu k3 with ⟨i1, i2, i3⟩ | ⟨i1, v, i2, i3⟩ | ⟨i1, i2, mk, ob, i3, i4⟩ | ⟨_, i2, _⟩
      rotate_left 3
      · exact absurd i2 hla
      · refine .inl ⟨by rw [wi] at i1; exact i1, i2, fun x => ?_⟩
        refine wp_mono_act (wp_put_out hsi hA (fun t ht => hB t ht) (i3 x)) ?_
        rintro ds' u' w' ⟨hy, hg'⟩
        refine ⟨hy, fun o ho => ?_⟩
        obtain rfl : ok = o := Option.some.inj (hok.symm.trans ho)
        exact .inr (.inl ⟨fun hwn => k1 (by rw [wk] at hwn; exact hwn), vk, (yieldsIf_put (a := { a with defers := ds' }) hsk hC).2 k2, hg'⟩)
      · refine .inr (.inl ⟨fun hwn => i1 (by rw [wi]; exact hwn), v, (yieldsIf_put hsi hA).1 i2, fun o ho => ?_⟩)
        obtain rfl : ok = o := Option.some.inj (hok.symm.trans ho)
        refine .inr (.inl ⟨fun hwn => k1 (by rw [wk] at hwn; exact hwn), vk, (yieldsIf_put hsk hC).2 k2, ?_⟩)
        rw [← Act.put_comm a vk v hB]
        exact i3
      · refine .inr (.inr (.inl ⟨by rw [wi] at i1; exact i1, i2, mk, ob, (allocAs_put hsi hA).1 i3, fun b x hb hub hx o ho => ?_⟩))
        obtain rfl : ok = o := Option.some.inj (hok.symm.trans ho)
        refine .inr (.inl ⟨fun hwn => k1 (by rw [wk] at hwn; exact hwn), vk, (yieldsIf_put hsk hC).2 k2, ?_⟩)
        rw [← Act.put_comm a vk (mk b) hB]
        exact i4 b x hb hub hx
    · -- k makes a block
      have hcs : ∀ (b : Nat) (x : Later w), x.w.heap[b]? = some ob → ∀ n, cons b U n → n < x.w.heap.size := fun b x hx n hn => by
        rcases hn with rfl | hn
        · exact (Array.getElem?_eq_some_iff.1 hx).1
        · exact Nat.lt_of_lt_of_le (hu n hn) x.size
      have first := ih _ _ _ (hw.later (Later.new w ob)) (hcs _ (Later.new w ob) (heap_alloc_new w ob)) (k4 w.heap.size (Later.new w ob) hw.size (fun h => Nat.lt_irrefl _ (hu _ h)) (heap_alloc_new w ob))
      rcases first with ⟨i1, i2, _⟩ | ⟨i1, v, i2, _⟩ | ⟨i1, i2, mi, obi, i3, _⟩ | ⟨_, i2, _⟩
      rotate_left 3
      · exact absurd i2 hla
      · exact absurd i2 (hcl (by rw [k2]; simp))
      · have hyi : YieldsIf P ops (C0 W0) oi v a := (yieldsIf_put hsi hA).1 i2
        refine .inr (.inl ⟨fun hwn => i1 (by rw [wi]; exact hwn), v, hyi, fun o ho => ?_⟩)
        obtain rfl : ok = o := Option.some.inj (hok.symm.trans ho)
        refine .inr (.inr (.inl ⟨by rw [wk]; exact k1, k2, mk, ob, (allocAs_put hsk hC).2 k3, fun b x hb hub hx => ?_⟩))
        rcases ih _ _ _ (hw.later x) (hcs b x hx) (k4 b x hb hub hx) with ⟨j1, j2, _⟩ | ⟨j1, v', j2, j3⟩ | ⟨j1, j2, _⟩ | ⟨_, j2, _⟩
        rotate_left 3
        · exact absurd j2 hla
        · rw [wi] at j1
          exact absurd (i1 (by rw [wi]; exact j1)) (by rw [j2]; simp)
        · have e : v = v' := yieldsIf_unique hyi ((yieldsIf_put hsi hA).1 j2)
          rw [← Act.put_comm a (mk b) v hB, e]
          exact j3
        · rw [wi] at j1
          exact absurd (i1 (by rw [wi]; exact j1)) (by rw [j2]; simp)
      · have hai : AllocAs P oi a mi obi := (allocAs_put hsi hA).1 i3
        have hwn : Region.wanted oi (yielded ops a.tmps) = true := by rw [wi] at i1; exact i1
        refine .inr (.inr (.inl ⟨hwn, i2, mi, obi, hai, fun b x hb hub hx o ho => ?_⟩))
        obtain rfl : ok = o := Option.some.inj (hok.symm.trans ho)
        refine .inr (.inr (.inl ⟨by rw [wk]; exact k1, k2, mk, ob, (allocAs_put hsk hC).2 k3, fun b' x' hb' hub' hx' => ?_⟩))
        have hne : b' ≠ b := fun e => hub' (.inl e)
        rcases ih _ _ _ (hw.later (x.step x')) (hcs b' (x.step x') hx') (k4 b' (x.step x') hb' (fun h => hub' (.inr h)) hx') with ⟨_, j2, _⟩ | ⟨j1, _⟩ | ⟨j1, j2, mk', ob', j3, j4⟩ | ⟨_, j2, _⟩
        rotate_left 3
        · exact absurd j2 hla
        · rw [i2] at j2; cases j2
        · exact absurd (j1 (by rw [wi]; exact hwn)) (by rw [i2]; simp)
        · obtain ⟨e1, e2⟩ := allocAs_unique hai ((allocAs_put hsi hA).1 j3)
          rw [← Act.put_comm a (mk b') (mi b) hB, e1 b]
          rw [cons_comm b' b U]
          refine j4 b (Later.self _) hb (fun h => h.elim (fun e => hne e.symm) hub) ?_
          have hlt : b < x.w.heap.size := (Array.getElem?_eq_some_iff.1 hx).1
          rw [← e2, ← hx]
          exact x'.le.block b hlt
    · -- k is the last
      exact absurd (k3 i (by simp)) hla

theorem any_of_good {Q' : Exit → Act → World → Prop} (hs : Region.noSelect ops = true) (hE : edgesB ops = true) (hC : certB ops (Region.before ops) = true) :
    ∀ (n : Nat) (U : Nat → Prop) (rem : List Nat) (listed : Array Bool) (a : Act) (w : World), rem.length = n → ((∃ i ∈ rem, cls i ≠ .last) → C0 W0 w ∧ ∀ n, U n → n < w.heap.size) → listed.size = ops.size →
      rem.Pairwise (fun k i => sepB ops (Region.before ops) cls k i = true ∧ k ≠ i) → (∀ i, i ∈ rem ↔ i < ops.size ∧ listed.getD i true = false) →
      (∀ j o, ops[j]? = some o → listed.getD j true = true → ∀ e ∈ o.after, Region.binds .any e = true → listed.getD e.on true = true) →
      Good P ops W0 cls (fun a w => Q' .normal a w) U rem a w → wpAny P .any ops Q' n listed a w
  | 0, _, rem, listed, a, w, hn, _, _, _, hmem, _, hg => by
    obtain rfl : rem = [] := List.eq_nil_of_length_eq_zero hn
    refine ⟨?_, hg (Later.self w)⟩
    rw [List.eq_nil_iff_forall_not_mem]
    intro i hi
    obtain ⟨h0, o, ho, _⟩ := mem_ready.1 hi
    exact absurd ((hmem i).2 ⟨(Array.getElem?_eq_some_iff.1 ho).1, h0⟩) (by simp)
  | n + 1, U, rem, listed, a, w, hn, hw, hsz, hpw, hmem, hdown, hg => by
    refine ⟨fun hr => ?_, fun i hi => ?_⟩
    · exfalso
      -- the least of what is left may come up
      have key : ∀ m i, i < m → i ∈ rem → False := by
        intro m
        induction m with
        | zero => intro i h; exact absurd h (Nat.not_lt_zero _)
        | succ m ih =>
          intro i him hir
          obtain ⟨hi1, hi2⟩ := (hmem i).1 hir
          have hready : i ∈ Region.ready .any ops listed := by
            refine mem_ready.2 ⟨hi2, ops[i], by simp [hi1], fun e he hb => ?_⟩
            have hlt := edgesB_spec hE (i := i) (o := ops[i]) (by simp [hi1]) e he hb
            have hlt2 : e.on < listed.size := by rw [hsz]; omega
            cases hl : listed.getD e.on true
            · exact (ih e.on (by omega) ((hmem e.on).2 ⟨by omega, hl⟩)).elim
            · simpa [hlt2] using hl
          rw [hr] at hready
          cases hready
      match rem, hn with
      | i :: rest, _ => exact key (i + 1) i (by omega) (by simp)
    · obtain ⟨h0, oi, hoi, hdep⟩ := mem_ready.1 hi
      have hi1 : i < ops.size := (Array.getElem?_eq_some_iff.1 hoi).1
      have hdep' : ∀ e ∈ oi.after, Region.binds .any e = true → listed.getD e.on true = true := fun e he hb => by
        have hh := hdep e he hb
        have hlt := edgesB_spec hE hoi e he hb
        have hlt2 : e.on < listed.size := by rw [hsz]; omega
        simpa [hlt2] using hh
      obtain ⟨l1, l2, rfl⟩ := split_mem ((hmem i).2 ⟨hi1, h0⟩)
      have hap : ∀ k ∈ l1, ∃ ok, ops[k]? = some ok ∧ ok.apart ops oi = true ∧ (cls k ≠ .val → cls i ≠ .loud) ∧ cls i ≠ .last := by
        intro k hk
        obtain ⟨hk1, hk2⟩ := (hmem k).1 (by simp [hk])
        have hsep := ((List.pairwise_append.1 hpw).2.2 k hk i (by simp)).1
        refine ⟨ops[k], by simp [hk1], ?_⟩
        rw [sepB, Bool.or_eq_true] at hsep
        rcases hsep with hsep | hsep
        · have := cert_listed hE hC hdown (i + 1) i oi (by omega) hoi hdep' k hk1 hsep
          rw [hk2] at this
          cases this
        · simp only [hoi, hk1, getElem?_pos, Bool.and_eq_true, Bool.or_eq_true, beq_iff_eq, bne_iff_ne] at hsep
          exact ⟨hsep.1.1, fun hv => hsep.1.2.resolve_left hv, hsep.2⟩
      have hp := pull hoi (Region.noSelect_spec hs) U l1 l2 a w (fun hne => by
        obtain ⟨k, hk⟩ := List.exists_mem_of_ne_nil _ hne
        obtain ⟨_, _, _, _, h4⟩ := hap k hk
        exact hw ⟨i, by simp, h4⟩) hap hg
      have hpw' : (l1 ++ l2).Pairwise (fun k i => sepB ops (Region.before ops) cls k i = true ∧ k ≠ i) :=
        hpw.sublist (List.Sublist.append_left (List.sublist_cons_self i l2) l1)
      have hnot : i ∉ l1 ++ l2 := by
        intro hmi
        rcases List.mem_append.1 hmi with hm | hm
        · exact ((List.pairwise_append.1 hpw).2.2 i hm i (by simp)).2 rfl
        · exact ((List.pairwise_cons.1 (List.pairwise_append.1 hpw).2.1).1 i hm).2 rfl
      have hlen : (l1 ++ l2).length = n := by simp at hn ⊢; omega
      have hmem' : ∀ j, j ∈ l1 ++ l2 ↔ j < ops.size ∧ (listed.setIfInBounds i true).getD j true = false := by
        intro j
        by_cases hji : j = i
        · subst hji
          refine ⟨fun h => absurd h hnot, fun h => ?_⟩
          have hlt2 : j < listed.size := by rw [hsz]; exact hi1
          simp [hlt2] at h
        · have e : (listed.setIfInBounds i true).getD j true = listed.getD j true := getD_set_ne true (Ne.symm hji)
          rw [e, ← hmem j]
          simp [hji]
      have hdown' : ∀ j o, ops[j]? = some o → (listed.setIfInBounds i true).getD j true = true → ∀ e ∈ o.after, Region.binds .any e = true → (listed.setIfInBounds i true).getD e.on true = true := by
        intro j o ho hl e he hb
        have up : listed.getD e.on true = true → (listed.setIfInBounds i true).getD e.on true = true := fun h => by
          by_cases hei : i = e.on
          · subst hei
            have hlt2 : e.on < listed.size := by rw [hsz]; exact hi1
            simp [hlt2]
          · rw [getD_set_ne true hei]; exact h
        by_cases hji : i = j
        · subst hji
          obtain rfl : oi = o := Option.some.inj (hoi.symm.trans ho)
          exact up (hdep' e he hb)
        · rw [getD_set_ne true hji] at hl
          exact up (hdown j o ho hl e he hb)
      have next := fun (U : Nat → Prop) (a' : Act) (w' : World) (hw' : (∃ j ∈ l1 ++ l2, cls j ≠ .last) → C0 W0 w' ∧ ∀ n, U n → n < w'.heap.size) (hg' : Good P ops W0 cls (fun a w => Q' .normal a w) U (l1 ++ l2) a' w') =>
        any_of_good (Q' := Q') hs hE hC n U (l1 ++ l2) (listed.setIfInBounds i true) a' w' hlen hw' (by simpa using hsz) hpw' hmem' hdown' hg'
      unfold wpOp
      simp only [hoi]
      rcases hp with ⟨h1, h2, h3⟩ | ⟨h1, v, h2, h3⟩ | ⟨h1, h2, mk, ob, h3, h4⟩ | ⟨h1, h2, h3, h4⟩
      · have hw := hw ⟨i, by simp, by rw [h2]; simp⟩
        rw [if_pos h1]
        refine .inl ?_
        have hx := Oper.wp_mono (K' := wpAny P .any ops Q' n (listed.setIfInBounds i true)) (fun a' w' h => next U a' w' (fun _ => by obtain ⟨⟨y, hy⟩, _⟩ := h; rw [hy]; exact ⟨(hw.1.later (Later.self w)).later y, fun n hn => Nat.lt_of_lt_of_le (hw.2 n hn) (Nat.le_trans (Later.self w).size y.size)⟩) h.2) (h3 (Later.self w))
        exact wp_of_F3 hx
      · rcases h2 with ⟨hwn, hy⟩ | ⟨hwn, rfl⟩
        · have hw := hw ⟨i, by simp, by rw [h1 hwn]; simp⟩
          rw [if_pos hwn]
          refine .inl ?_
          simp only [Oper.wp, hy w hw.1, Oper.upon]
          exact next U _ _ (fun _ => hw) h3
        · rw [if_neg (by rw [hwn]; simp)]
          exact next U _ _ (fun ⟨j, hj, hc⟩ => hw ⟨j, by rcases List.mem_append.1 hj with h | h <;> simp [h], hc⟩) h3
      · have hw := hw ⟨i, by simp, by rw [h2]; simp⟩
        rw [if_pos h1]
        refine .inl ?_
        simp only [Oper.wp, h3 w, Oper.upon]
        exact next _ _ _ (fun _ => ⟨hw.1.later (Later.new w ob), fun n hn => by
          rcases hn with rfl | hn
          · exact (Array.getElem?_eq_some_iff.1 (heap_alloc_new w ob)).1
          · exact Nat.lt_of_lt_of_le (hw.2 n hn) (Later.new w ob).size⟩) (h4 w.heap.size (Later.new w ob) hw.1.size (fun h => Nat.lt_irrefl _ (hw.2 _ h)) (heap_alloc_new w ob))
      · rw [if_pos h1]
        refine .inl ?_
        have hx := Oper.wp_mono (K' := wpAny P .any ops Q' n (listed.setIfInBounds i true)) (fun a' w' h => next U a' w' (fun ⟨j, hj, hc⟩ => absurd (h3 j hj) hc) h) (h4 (Later.self w))
        exact wp_of_F3 hx

/-- **A region that draws its order, walked once.** -/
theorem region_mix {id : Nat} {Q' : Exit → Act → World → Prop} {a : Act} {w : World} {l : List Oper} (order : List Nat) (cls : Nat → Cls) (hm : P.follows .mixedOrders = true)
    (hB : mixB l.toArray order cls = true) (h : Good P l.toArray w cls (fun a w => Q' .normal a w) none0 order a w) : (Code.region id l.toArray true).wp P Q' a w := by
  simp only [mixB, Bool.and_eq_true] at hB
  obtain ⟨⟨⟨⟨⟨hs, hE⟩, hC⟩, hp⟩, hr⟩, ho⟩ := hB
  refine wp_region_any hm ?_
  have hlen : order.length = l.toArray.size := by
    have hnd : order.Nodup := (pairsB_spec hp).imp (fun h => h.2)
    have h1 : ∀ i, i ∈ order ↔ i ∈ List.range l.toArray.size := fun i => by
      rw [List.mem_range]
      rw [List.all_eq_true] at ho hr
      exact ⟨fun h => of_decide_eq_true (ho i h), fun h => by have := hr i (List.mem_range.2 h); simpa using this⟩
    have hperm := (List.perm_ext_iff_of_nodup hnd List.nodup_range).2 h1
    rw [hperm.length_eq, List.length_range]
  have := any_of_good (P := P) (W0 := w) (cls := cls) (Q' := Q') hs hE hC order.length none0 order (Array.replicate l.toArray.size false) a { w with drawn := w.drawn + 1 } rfl (fun _ => ⟨⟨Later.draw w, rfl⟩, fun _ h => h.elim⟩) (by simp) (pairsB_spec hp)
    (fun i => by
      rw [List.all_eq_true] at ho hr
      constructor
      · intro h
        have hlt := of_decide_eq_true (ho i h)
        exact ⟨hlt, by simp at hlt; simp [hlt]⟩
      · intro h
        have := hr i (List.mem_range.2 h.1)
        simpa using this)
    (fun j o hj hl => by
      have hlt : j < l.toArray.size := (Array.getElem?_eq_some_iff.1 hj).1
      simp at hlt
      simp [hlt] at hl)
    (h.later (Later.draw w))
  rw [hlen] at this
  exact this
end
section
variable {P : Program} {ops : Array Oper} {W0 : World} {cls : Nat → Cls} {Q : Act → World → Prop} {i : Nat} {a : Act} {w : World} {o : Oper}
/-- The same, of the operations themselves in the order of the text. -/
def GoodL (P : Program) (ops : Array Oper) (W0 : World) (cls : Nat → Cls) (Q : Act → World → Prop) : (Nat → Prop) → Nat → List Oper → Act → World → Prop
  | _, _, [], a, w => ∀ x : Later w, Q a x.w
  | U, i, o :: rest, a, w =>
      (Region.wanted o (yielded ops a.tmps) = true ∧ cls i = .loud ∧ ∀ x : Later w, o.wp P a x.w (fun a' w' => (∃ y : Later x.w, w' = y.w) ∧ GoodL P ops W0 cls Q U (i + 1) rest a' w') F3) ∨
      ((Region.wanted o (yielded ops a.tmps) = true → cls i = .val) ∧ ∃ v, YieldsIf P ops (C0 W0) o v a ∧ GoodL P ops W0 cls Q U (i + 1) rest (a.put o.dst v) w) ∨
      (Region.wanted o (yielded ops a.tmps) = true ∧ cls i = .new ∧ ∃ mk ob, AllocAs P o a mk ob ∧
        ∀ (b : Nat) (x : Later w), W0.heap.size ≤ b → ¬ U b → x.w.heap[b]? = some ob → GoodL P ops W0 cls Q (cons b U) (i + 1) rest (a.put o.dst (mk b)) x.w) ∨
      (Region.wanted o (yielded ops a.tmps) = true ∧ cls i = .last ∧ (∀ j, j < rest.length → cls (i + 1 + j) = .last) ∧ ∀ x : Later w, o.wp P a x.w (fun a' w' => GoodL P ops W0 cls Q U (i + 1) rest a' w') F3)

theorem good_of_goodL : ∀ (U : Nat → Prop) (l : List Oper) (k : Nat) (a : Act) (w : World), (∀ j, l[j]? = ops[k + j]?) → GoodL P ops W0 cls Q U k l a w → Good P ops W0 cls Q U (List.range' k l.length) a w
  | _, [], _, _, _, _, h => h
  | U, o :: l, k, a, w, hl, h => by
    have h0 : ops[k]? = some o := by simpa using (hl 0).symm
    have hl' : ∀ j, l[j]? = ops[k + 1 + j]? := fun j => by have := hl (j + 1); simpa [Nat.add_assoc, Nat.add_comm 1 j] using this
    have ih := fun U a w => good_of_goodL U l (k + 1) a w hl'
    rw [List.length_cons, List.range'_succ]
    intro o' ho'
    obtain rfl : o = o' := Option.some.inj (h0.symm.trans ho')
    rcases h with ⟨h1, h2, h3⟩ | ⟨h1, v, h2, h3⟩ | ⟨h1, h2, mk, ob, h3, h4⟩ | ⟨h1, h2, hl2, h3⟩
    · exact .inl ⟨h1, h2, fun x => Oper.wp_mono (fun a' w' hh => ⟨hh.1, ih U a' w' hh.2⟩) (h3 x)⟩
    · exact .inr (.inl ⟨h1, v, h2, ih U _ _ h3⟩)
    · exact .inr (.inr (.inl ⟨h1, h2, mk, ob, h3, fun b x hb hu hx => ih _ _ _ (h4 b x hb hu hx)⟩))
    · exact .inr (.inr (.inr ⟨h1, h2, fun j hj => by
        obtain ⟨q, hq, rfl⟩ := List.mem_range'.1 hj
        simpa using hl2 q hq, fun x => Oper.wp_mono (fun a' w' hh => ih U a' w' hh) (h3 x)⟩))

/-- **A region that draws its order, walked once, in the order of its text.** -/
theorem region_mixL {id : Nat} {Q' : Exit → Act → World → Prop} {a : Act} {w : World} {l : List Oper} (cls : Nat → Cls) (hm : P.follows .mixedOrders = true)
    (hB : mixB l.toArray (List.range' 0 l.length) cls = true) (h : GoodL P l.toArray w cls (fun a w => Q' .normal a w) none0 0 l a w) : (Code.region id l.toArray true).wp P Q' a w :=
  region_mix (List.range' 0 l.length) cls hm hB (good_of_goodL none0 l 0 a w (fun j => by simp) h)

variable {rest : List Oper} {U : Nat → Prop}
theorem skip (hw : Region.wanted o (yielded ops a.tmps) = false) (h : GoodL P ops W0 cls Q U (i + 1) rest (a.put o.dst undef) w) : GoodL P ops W0 cls Q U i (o :: rest) a w :=
  .inr (.inl ⟨fun h1 => (by rw [hw] at h1; cases h1), undef, .inr ⟨hw, rfl⟩, h⟩)

theorem val (hc : cls i = .val) (hv : valOp o.op = true) (hw : Region.wanted o (yielded ops a.tmps) = true)
    (h : ∀ K : Act → Prop, (∀ a', GoodL P ops W0 cls Q U (i + 1) rest a' w → K a') → o.quiet P a (fun w' => ∃ x : Later W0, w' = x.w) K) : GoodL P ops W0 cls Q U i (o :: rest) a w := by
  obtain ⟨v, h1, h2⟩ := h (fun a' => GoodL P ops W0 cls Q U (i + 1) rest a' w) (fun _ h => h)
  refine .inr (.inl ⟨fun _ => hc, v, .inl ⟨hw, fun w' hw' => ?_⟩, h2⟩)
  have h3 := h1 w' hw'
  unfold Oper.quietAt at h3
  cases hr : (execOp a.eval o).run P w' with
  | ok n w1 =>
    obtain ⟨u, rfl⟩ := valOp_run hv hr
    rw [hr] at h3
    simp only [Oper.quietUpon] at h3
    rw [h3.1, h3.2]
  | halt x w1 => rw [hr] at h3; exact h3.elim

theorem loud (hc : cls i = .loud) (hw : Region.wanted o (yielded ops a.tmps) = true)
    (h : ∀ (x : Later w) (K : Act → World → Prop), (∀ (a' : Act) (y : Later x.w), GoodL P ops W0 cls Q U (i + 1) rest a' y.w → K a' y.w) → o.wp P a x.w K F3) : GoodL P ops W0 cls Q U i (o :: rest) a w :=
  .inl ⟨hw, hc, fun x => h x _ (fun _ y hg => ⟨⟨y, rfl⟩, hg⟩)⟩

theorem new (hc : cls i = .new) (hw : Region.wanted o (yielded ops a.tmps) = true) (mk : Nat → Value) (ob : Obj) (hal : AllocAs P o a mk ob)
    (h : ∀ (b : Nat) (x : Later w), W0.heap.size ≤ b → ¬ U b → x.w.heap[b]? = some ob → GoodL P ops W0 cls Q (cons b U) (i + 1) rest (a.put o.dst (mk b)) x.w) : GoodL P ops W0 cls Q U i (o :: rest) a w :=
  .inr (.inr (.inl ⟨hw, hc, mk, ob, hal, h⟩))

theorem last (hc : cls i = .last) (hw : Region.wanted o (yielded ops a.tmps) = true)
    (h : ∀ (x : Later w) (K : Act → World → Prop), (∀ (a' : Act) (w' : World), GoodL P ops W0 cls Q U (i + 1) [] a' w' → K a' w') → o.wp P a x.w K F3) : GoodL P ops W0 cls Q U i [o] a w :=
  .inr (.inr (.inr ⟨hw, hc, fun _ hj => absurd hj (Nat.not_lt_zero _), fun x => h x _ (fun _ _ hg => hg)⟩))
/-- an operation that may change what was there: behind it come such alone -/
theorem lastR (hc : cls i = .last) (hw : Region.wanted o (yielded ops a.tmps) = true) (hr : ∀ j, j < rest.length → cls (i + 1 + j) = .last)
    (h : ∀ (x : Later w) (K : Act → World → Prop), (∀ (a' : Act) (w' : World), GoodL P ops W0 cls Q U (i + 1) rest a' w' → K a' w') → o.wp P a x.w K F3) : GoodL P ops W0 cls Q U i (o :: rest) a w :=
  .inr (.inr (.inr ⟨hw, hc, hr, fun x => h x _ (fun _ _ hg => hg)⟩))

theorem skipU {d : Tmp} (hw : Region.wanted o (yielded ops a.tmps) = false) (hd : o.dst = some d) (hu : a.tmps.getD d undef = undef) (h : GoodL P ops W0 cls Q U (i + 1) rest a w) : GoodL P ops W0 cls Q U i (o :: rest) a w :=
  skip hw (by rw [hd, put_undef hu]; exact h)
/-- There is one more. -/
theorem atCons (h : GoodL P ops W0 cls Q U i (o :: rest) a w) : GoodL P ops W0 cls Q U i (o :: rest) a w := h
/-- the kinds of operations, by three lists of numbers -/
theorem done (h : ∀ x : Later w, Q a x.w) : GoodL P ops W0 cls Q U i [] a w := h
end
end MixU
end Go.Proofs.Ytpkgfkeekcgkcaa

/-  Strings as lists of bytes; slices of strings that read as lists. -/
namespace Go.Proofs.Ytpkgfkeekcgkcaa
open Go.RowKit
theorem str_eta (s : ByteArray) : (⟨s.data.toList.toArray⟩ : ByteArray) = s := by cases s; simp
theorem str_size (l : List UInt8) : (⟨l.toArray⟩ : ByteArray).size = l.length := by simp [ByteArray.size]
theorem str_app (a b : List UInt8) : (⟨a.toArray⟩ : ByteArray) ++ ⟨b.toArray⟩ = ⟨(a ++ b).toArray⟩ := by
  apply ByteArray.ext
  simp
theorem str_inj {a b : List UInt8} (h : (⟨a.toArray⟩ : ByteArray) = ⟨b.toArray⟩) : a = b := by
  injection h with h
  simpa using h
attribute [go_sem] str_size str_app
/-- the k-th string of a list, the k-th byte of a text -/
def sat (xs : List (List UInt8)) (k : Nat) : List UInt8 := xs.getD k []
def bt (l : List UInt8) (k : Nat) : UInt8 := l.getD k 0
theorem sat_eq {xs : List (List UInt8)} {k : Nat} (h : k < xs.length) : sat xs k = xs[k] := by simp [sat, h]
theorem bt_eq {l : List UInt8} {k : Nat} (h : k < l.length) : bt l k = l[k] := by simp [bt, h]
/-- A slice of strings that reads as a list. -/
def Strs (w : World) (v : Value) (xs : List (List UInt8)) : Prop :=
  xs.length ≤ 9007199254740992 ∧ ((xs = [] ∧ ∃ a cap, v = .slice a 0 cap) ∨
    ∃ b off cap, v = .slice (some ⟨b, off, none⟩) xs.length cap ∧ xs.length ≤ cap ∧ b < w.heap.size ∧ ∀ k, k < xs.length → w.cell? ⟨b, off + k, none⟩ = some (.string ⟨(sat xs k).toArray⟩))
theorem Strs.later {w : World} {v : Value} {xs : List (List UInt8)} (h : Strs w v xs) (x : Later w) : Strs x.w v xs := by
  obtain ⟨h1, h2 | ⟨b, off, cap, hv, hl, hb, hc⟩⟩ := h
  · exact ⟨h1, .inl h2⟩
  · exact ⟨h1, .inr ⟨b, off, cap, hv, hl, Nat.lt_of_lt_of_le hb x.size, fun k hk => (x.cell hb).trans (hc k hk)⟩⟩
theorem Strs.form {w : World} {v : Value} {xs : List (List UInt8)} (h : Strs w v xs) : ∃ a cap, v = .slice a xs.length cap := by
  obtain ⟨h1, ⟨rfl, a, cap, rfl⟩ | ⟨b, off, cap, rfl, _⟩⟩ := h
  · exact ⟨a, cap, rfl⟩
  · exact ⟨_, cap, rfl⟩
theorem Strs.nil {w : World} (a : Option Addr) (cap : Nat) : Strs w (.slice a 0 cap) [] := ⟨by simp, .inl ⟨rfl, a, cap, rfl⟩⟩
theorem Strs.at {w : World} {v : Value} {xs : List (List UInt8)} (h : Strs w v xs) {k : Nat} (hk : k < xs.length) :
    ∃ b off cap, v = .slice (some ⟨b, off, none⟩) xs.length cap ∧ xs.length ≤ cap ∧ b < w.heap.size ∧ ∀ k, k < xs.length → w.cell? ⟨b, off + k, none⟩ = some (.string ⟨(sat xs k).toArray⟩) := by
  obtain ⟨h1, ⟨rfl, _⟩ | h2⟩ := h
  · simp at hk
  · exact h2
/-- marks by value: the letters that are struck, the strings that are added -/
structure Mks (w : World) (sv av : Value) (st : List Int) (ad : List (List UInt8)) : Prop where
  s : Ints w sv st
  a : Strs w av ad
theorem Mks.later {w : World} {sv av : Value} {st : List Int} {ad : List (List UInt8)} (h : Mks w sv av st ad) (x : Later w) : Mks x.w sv av st ad := ⟨h.s.later x, h.a.later x⟩
/-! ### the answers -/
def hasB (xs : List Int) (n : Int) : Bool := xs.any fun x => x == n
/-- CheckText -/
def txtE (l : List UInt8) : Int := if 12 < l.length then 7 else 0
def txtsE (a b : List UInt8) : Int := if txtE a ≠ 0 then txtE a else txtE b
/-- CheckMarks -/
def strayI (n : Nat) (st : List Int) (i : Nat) : Bool := decide (nth st i < 0) || decide ((n : Int) ≤ nth st i) || (decide (0 < i) && decide (nth st i ≤ nth st (i - 1)))
def marksE (l : List UInt8) (st : List Int) (ad : List (List UInt8)) : Int :=
  if txtE l ≠ 0 then txtE l else if ad.length ≠ l.length + 1 then 15 else if (ad.any fun s => decide (12 < s.length)) = true then 7 else if ((List.range st.length).any (strayI l.length st)) = true then 3 else 0
/-- the marked text, as far as the k-th letter; how many letters are added -/
def kp (st : List Int) (l : List UInt8) (k : Nat) : List UInt8 := if k < l.length ∧ hasB st k = false then [bt l k] else []
def rd (st : List Int) (l : List UInt8) (ad : List (List UInt8)) : Nat → List UInt8
  | 0 => []
  | k + 1 => rd st l ad k ++ sat ad k ++ kp st l k
def cn (ad : List (List UInt8)) : Nat → Nat
  | 0 => 0
  | k + 1 => cn ad k + (sat ad k).length
end Go.Proofs.Ytpkgfkeekcgkcaa

/-  Blocks of cells; lists that read so in a world; lists gone through. -/
namespace Go.Proofs.Ytpkgfkeekcgkcaa
open Go.RowKit Go.Shelf
/-- a block of cells -/
def Lin (U : World) (g : Nat) (T : TypeId) (cs : List Value) : Prop := U.heap[g]? = some (.cells cs.toArray T (0, 0))
section
variable {U : World} {g : Nat} {T : TypeId} {cs : List Value}
theorem Lin.lt (h : Lin U g T cs) : g < U.heap.size := (Array.getElem?_eq_some_iff.1 h).1
theorem Lin.cell (h : Lin U g T cs) {k : Nat} {v : Value} (hk : cs[k]? = some v) : U.cell? ⟨g, k, none⟩ = some v := by
  simp only [World.cell?, show U.heap[g]? = _ from h]
  simpa using hk
theorem Lin.frozen (h : Lin U g T cs) (k : Nat) : U.frozen? ⟨g, k, none⟩ = false := by simp [World.frozen?, show U.heap[g]? = _ from h]
theorem Lin.kept (h : Lin U g T cs) {U' : World} {row : Option Nat} (hg : U.grownBy U' row) (hne : some g ≠ row) : Lin U' g T cs := (hg.block g h.lt hne).trans h
theorem Later.grown {W : World} (x : Later W) : W.grownBy x.w none := ⟨x.le.os, x.le.tape, x.le.output, x.size, fun k hk _ => x.le.block k hk⟩
theorem Lin.later (h : Lin U g T cs) (x : Later U) : Lin x.w g T cs := h.kept x.grown (by simp)
theorem Lin.set (h : Lin U g T cs) (k : Nat) (v : Value) : Lin (U.setCell ⟨g, k, none⟩ v) g T (cs.set k v) := by
  show _ = _
  rw [heap_setCell_same _ _ _ _ _ _ h]
  simp
theorem grownBy_setCell_at (w : World) (b k : Nat) (u : Value) : w.grownBy (w.setCell ⟨b, k, none⟩ u) (some b) := ⟨rfl, rfl, rfl, by simp [World.setCell], fun j _ hne => Below.heap_setCell _ _ _ j (fun e => hne (by rw [e]))⟩
theorem Lin.other (h : Lin U g T cs) {b k : Nat} (hb : g ≠ b) (v : Value) : Lin (U.setCell ⟨b, k, none⟩ v) g T cs := h.kept (grownBy_setCell_at U b k v) (by simp; omega)
theorem Lin.new (W : World) (T : TypeId) (cs : List Value) : Lin (W.alloc (.cells cs.toArray T)) W.heap.size T cs := World.alloc_heap_new _ _
end
def Ins (V : World) (l : List (Value × List Int)) : Prop := ∀ p ∈ l, Ints V p.1 p.2
theorem Ins.later {V : World} {l : List (Value × List Int)} (h : Ins V l) (y : Later V) : Ins y.w l := fun p hp => (h p hp).later y
theorem Ins.cons {V : World} {l : List (Value × List Int)} (h : Ins V l) {v : Value} {xs : List Int} (hv : Ints V v xs) : Ins V ((v, xs) :: l) := fun p hp => by
  rcases List.mem_cons.1 hp with rfl | hp
  · exact hv
  · exact h p hp
theorem Ins.nil (V : World) : Ins V [] := fun p hp => absurd hp (by simp)
theorem Ins.at {V : World} {l : List (Value × List Int)} (h : Ins V l) {v : Value} {xs : List Int} (hm : (v, xs) ∈ l) : Ints V v xs := h _ hm
theorem any_snoc {α : Type} {l : List α} {f : α → Bool} {d : α} {k : Nat} (h : ∀ j, j < k → f (l.getD j d) = false) (hk : f (l.getD k d) = false) : ∀ j, j < k + 1 → f (l.getD j d) = false := fun j hj => by
  rcases Nat.lt_or_ge j k with h1 | h1
  · exact h j h1
  · have : j = k := by omega
    subst this; exact hk
theorem any_at {α : Type} {l : List α} {f : α → Bool} {d : α} {k : Nat} (hk : k < l.length) (h : f (l.getD k d) = true) : l.any f = true := by
  rw [List.any_eq_true]
  exact ⟨l[k], List.getElem_mem hk, by simpa [hk] using h⟩
theorem any_get {α : Type} {l : List α} {f : α → Bool} {d : α} {k : Nat} (h : l.any f = false) (hk : k < l.length) : f (l.getD k d) = false := by
  rw [List.any_eq_false] at h
  have := h _ (List.getElem_mem hk)
  have e : l.getD k d = l[k] := by simp [hk]
  rw [e]
  simpa using this
theorem any_off {α : Type} {l : List α} {f : α → Bool} {d : α} (h : ∀ j, j < l.length → f (l.getD j d) = false) : l.any f = false := by
  rw [List.any_eq_false]
  intro x hx
  obtain ⟨i, hi, rfl⟩ := List.mem_iff_getElem.1 hx
  have := h i hi
  simp [hi] at this
  simp [this]
namespace Mix
section
variable {P : Program} {ops : Array Oper} {W0 : World} {cls : Nat → Cls} {Q : Act → World → Prop} {i : Nat} {rest : List Oper} {a : Act} {w : World} {o : Oper}
/-- an operation that yields one value in every world behind the first -/
theorem valY (hc : cls i = .val) (hw : Region.wanted o (yielded ops a.tmps) = true) (v : Value) (hv : ∀ w', (execOp a.eval o).run P w' = .ok (.value v) w') (h : GoodL P ops W0 cls Q (i + 1) rest (a.put o.dst v) w) : GoodL P ops W0 cls Q i (o :: rest) a w :=
  .inr (.inl ⟨fun _ => hc, v, .inl ⟨hw, fun w' _ => hv w'⟩, h⟩)
end
end Mix
end Go.Proofs.Ytpkgfkeekcgkcaa
