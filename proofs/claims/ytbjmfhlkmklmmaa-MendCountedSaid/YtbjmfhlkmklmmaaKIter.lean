import Derived.Test.YtbjmfhlkmklmmaaKRef
import Derived.RangeFuncNested
import Derived.RangeFuncBound
import Derived.RangeFuncCalls
import Derived.RangeFuncLeaves
import Derived.Shelf.Abstract
import Derived.Shelf.RegionOpen
import Derived.OwnWalkIn
import Derived.TacticsInMore
import Derived.LoopNIn
import Derived.LoopIn
import Derived.Sort.BigQuietIn
import Derived.Test.YtbjmfhlkmklmmaaKMix
import Derived.RangeFuncOne
/-  The block of a plate: its size, its dents, what it is now, and its blows: 75 cells. Plain law over the program's table of types. -/
namespace Go.Proofs.Ytbjmfhlkmklmmaa
open Go.RowKit

def bcells (w h : Int) (dv : Value) (now bl : List Int) : List Value := .int .i64 w :: .int .i64 h :: dv :: (now.map (Value.int .i64) ++ bl.map (Value.int .i64))
/-- the block b reads so -/
structure Blk (W : World) (b : Nat) (w h : Int) (dv : Value) (now bl : List Int) : Prop where
  heap : W.heap[b]? = some (.cells (bcells w h dv now bl).toArray 77 (0, 0))
  len1 : now.length = 36
  len2 : bl.length = 36
theorem bcells_now {w h : Int} {dv : Value} {now bl : List Int} {k : Nat} (hk : k < now.length) : (bcells w h dv now bl)[3 + k]? = some (.int .i64 (nth now k)) := by
  rw [bcells, show 3 + k = k + 1 + 1 + 1 by omega, List.getElem?_cons_succ, List.getElem?_cons_succ, List.getElem?_cons_succ, List.getElem?_append_left (by simpa using hk), List.getElem?_map, List.getElem?_eq_getElem hk, nth_eq hk]; rfl
theorem bcells_bl {w h : Int} {dv : Value} {now bl : List Int} (h1 : now.length = 36) {k : Nat} (hk : k < bl.length) : (bcells w h dv now bl)[39 + k]? = some (.int .i64 (nth bl k)) := by
  rw [bcells, show 39 + k = 36 + k + 1 + 1 + 1 by omega, List.getElem?_cons_succ, List.getElem?_cons_succ, List.getElem?_cons_succ, List.getElem?_append_right (by simp; omega), List.length_map, h1, show 36 + k - 36 = k by omega, List.getElem?_map, List.getElem?_eq_getElem hk, nth_eq hk]; rfl
theorem bcells_setNow (w h : Int) (dv : Value) (now bl : List Int) {k : Nat} (hk : k < now.length) (y : Int) : (bcells w h dv now bl).set (3 + k) (.int .i64 y) = bcells w h dv (now.set k y) bl := by
  rw [bcells, bcells, show 3 + k = k + 1 + 1 + 1 by omega, List.set_cons_succ, List.set_cons_succ, List.set_cons_succ, List.set_append_left _ _ (by simpa using hk), List.map_set]
theorem bcells_setBl (w h : Int) (dv : Value) (now bl : List Int) (h1 : now.length = 36) {k : Nat} (hk : k < bl.length) (y : Int) : (bcells w h dv now bl).set (39 + k) (.int .i64 y) = bcells w h dv now (bl.set k y) := by
  rw [bcells, bcells, show 39 + k = 36 + k + 1 + 1 + 1 by omega, List.set_cons_succ, List.set_cons_succ, List.set_cons_succ, List.set_append_right _ _ (by simp; omega), List.length_map, h1, show 36 + k - 36 = k by omega, List.map_set]
section
variable {W : World} {b : Nat} {w h : Int} {dv : Value} {now bl : List Int}
theorem Blk.lt (hb : Blk W b w h dv now bl) : b < W.heap.size := (Array.getElem?_eq_some_iff.1 hb.heap).1
theorem Blk.at (hb : Blk W b w h dv now bl) (i : Nat) : W.cell? ⟨b, i, none⟩ = (bcells w h dv now bl)[i]? := by simp [World.cell?, hb.heap]
theorem Blk.frozen (hb : Blk W b w h dv now bl) (i : Nat) : W.frozen? ⟨b, i, none⟩ = false := by simp [World.frozen?, hb.heap]
theorem Blk.cellW (hb : Blk W b w h dv now bl) : W.cell? ⟨b, 0, none⟩ = some (.int .i64 w) := hb.at 0
theorem Blk.cellH (hb : Blk W b w h dv now bl) : W.cell? ⟨b, 1, none⟩ = some (.int .i64 h) := hb.at 1
theorem Blk.cellD (hb : Blk W b w h dv now bl) : W.cell? ⟨b, 2, none⟩ = some dv := hb.at 2
theorem Blk.cellN (hb : Blk W b w h dv now bl) {k : Nat} (hk : k < 36) : W.cell? ⟨b, 3 + k, none⟩ = some (.int .i64 (nth now k)) := (hb.at _).trans (bcells_now (by rw [hb.len1]; exact hk))
theorem Blk.cellB (hb : Blk W b w h dv now bl) {k : Nat} (hk : k < 36) : W.cell? ⟨b, 39 + k, none⟩ = some (.int .i64 (nth bl k)) := (hb.at _).trans (bcells_bl hb.len1 (by rw [hb.len2]; exact hk))
theorem Blk.later (hb : Blk W b w h dv now bl) (x : Later W) : Blk x.w b w h dv now bl := ⟨(x.le.block b hb.lt).trans hb.heap, hb.len1, hb.len2⟩
theorem Blk.kept {W' : World} {r : Option Nat} (hb : Blk W b w h dv now bl) (hg : W.grownBy W' r) (hne : some b ≠ r) : Blk W' b w h dv now bl := ⟨(hg.block b hb.lt hne).trans hb.heap, hb.len1, hb.len2⟩
theorem Blk.set (hb : Blk W b w h dv now bl) (i : Nat) (u : Value) : (W.setCell ⟨b, i, none⟩ u).heap[b]? = some (.cells ((bcells w h dv now bl).set i u).toArray 77 (0, 0)) := by
  obtain ⟨hlt, hk⟩ := Array.getElem?_eq_some_iff.1 hb.heap
  show (W.heap.modify b _)[b]? = _
  rw [Array.getElem?_eq_getElem (by rw [Array.size_modify]; exact hlt), Array.getElem_modify_self, hk]
  simp
theorem Blk.setN (hb : Blk W b w h dv now bl) {k : Nat} (hk : k < 36) (y : Int) : Blk (W.setCell ⟨b, 3 + k, none⟩ (.int .i64 y)) b w h dv (now.set k y) bl :=
  ⟨by rw [hb.set, bcells_setNow _ _ _ _ _ (by rw [hb.len1]; exact hk)], by rw [List.length_set, hb.len1], hb.len2⟩
theorem Blk.setB (hb : Blk W b w h dv now bl) {k : Nat} (hk : k < 36) (y : Int) : Blk (W.setCell ⟨b, 39 + k, none⟩ (.int .i64 y)) b w h dv now (bl.set k y) :=
  ⟨by rw [hb.set, bcells_setBl _ _ _ _ _ hb.len1 (by rw [hb.len2]; exact hk)], hb.len1, by rw [List.length_set, hb.len2]⟩
end
/-- All that lay below n stays, but for the block b. -/
structure But (n b : Nat) (W W' : World) : Prop where
  os : W'.os = W.os
  tape : W'.tape = W.tape
  output : W'.output = W.output
  size : W.heap.size ≤ W'.heap.size
  block : ∀ k, k < n → k ≠ b → W'.heap[k]? = W.heap[k]?
theorem But.refl (n b : Nat) (W : World) : But n b W W := ⟨rfl, rfl, rfl, Nat.le_refl _, fun _ _ _ => rfl⟩
theorem But.trans {n b : Nat} {X Y Z : World} (h : But n b X Y) (k : But n b Y Z) : But n b X Z := ⟨k.os.trans h.os, k.tape.trans h.tape, k.output.trans h.output, Nat.le_trans h.size k.size, fun j hj hne => (k.block j hj hne).trans (h.block j hj hne)⟩
theorem But.mono {n m b : Nat} {X Y : World} (h : But n b X Y) (hm : m ≤ n) : But m b X Y := ⟨h.os, h.tape, h.output, h.size, fun k hk => h.block k (by omega)⟩
theorem But.below {n b : Nat} {X Y : World} (h : Below n X Y) : But n b X Y := ⟨h.os, h.tape, h.output, h.size, fun k hk _ => h.block k hk⟩
theorem But.set {n b : Nat} {X Y : World} (h : But n b X Y) (i : Nat) (u : Value) : But n b X (Y.setCell ⟨b, i, none⟩ u) := h.trans ⟨rfl, rfl, rfl, by simp [World.setCell], fun k _ hne => Below.heap_setCell _ _ _ k hne⟩
theorem But.ints {n b : Nat} {X Y : World} (h : But n b X Y) {v : Value} {xs : List Int} (hx : Ints X v xs) (hn : X.heap.size ≤ n) (hne : ∀ c off k m, v = .slice (some ⟨c, off, none⟩) k m → k ≠ 0 → c ≠ b) : Ints Y v xs := by
  obtain ⟨h1, h2 | ⟨c, off, cap, hv, hl, hc, hg⟩⟩ := hx
  · exact ⟨h1, .inl h2⟩
  · by_cases hx0 : xs = []
    · subst hx0; exact ⟨h1, .inl ⟨rfl, _, _, hv⟩⟩
    · have hcb := hne c off _ _ hv (by simpa using hx0)
      exact ⟨h1, .inr ⟨c, off, cap, hv, hl, Nat.lt_of_lt_of_le hc h.size, fun k hk => (World.cell?_of_block (h.block c (by omega) hcb)).trans (hg k hk)⟩⟩
end Go.Proofs.Ytbjmfhlkmklmmaa

/-  The iterator over the neighbours of a place. -/
namespace Go.Proofs.Ytbjmfhlkmklmmaa
open Go.RowKit Go.Shelf
attribute [local go_sem] Oper.semAt_some

/-- what a round keeps: where the place and the block stand, and the plate's size -/
def KpB (Bp Bb b : Nat) (W W' : World) : Prop := W.heap.size ≤ W'.heap.size ∧ W'.cell? ⟨Bp, 0, none⟩ = W.cell? ⟨Bp, 0, none⟩ ∧ W'.cell? ⟨Bb, 0, none⟩ = W.cell? ⟨Bb, 0, none⟩ ∧ W'.cell? ⟨b, 0, none⟩ = W.cell? ⟨b, 0, none⟩ ∧ W'.cell? ⟨b, 1, none⟩ = W.cell? ⟨b, 1, none⟩
theorem KpB.t {Bp Bb b : Nat} {X Y Z : World} (h : KpB Bp Bb b X Y) (k : KpB Bp Bb b Y Z) : KpB Bp Bb b X Z := ⟨Nat.le_trans h.1 k.1, k.2.1.trans h.2.1, k.2.2.1.trans h.2.2.1, k.2.2.2.1.trans h.2.2.2.1, k.2.2.2.2.trans h.2.2.2.2⟩
theorem KpB.b {Bp Bb b : Nat} {n : Nat} (h1 : Bp < n) (h2 : Bb < n) (h3 : b < n) (W : World) (l : Nat) (o o' : Obj) (hl : n ≤ l) (_ : W.heap[l]? = some o) (_ : o.isCells = false) (_ : o.isWalk = false) : KpB Bp Bb b W (W.putObj l o') := by
  have hk : ∀ c, c < n → (W.putObj l o').heap[c]? = W.heap[c]? := fun c hc => World.putObj_heap_other (by omega)
  exact ⟨(grownBy_putObj' W l o').size, World.cell?_of_block (hk _ h1), World.cell?_of_block (hk _ h2), World.cell?_of_block (hk _ h3), World.cell?_of_block (hk _ h3)⟩

theorem KpB.of {Bp Bb b : Nat} {W : World} (x : Later W) (h1 : Bp < W.heap.size) (h2 : Bb < W.heap.size) (h3 : b < W.heap.size) : KpB Bp Bb b W x.w := ⟨x.size, x.cell h1, x.cell h2, x.cell h3, x.cell h3⟩
/-- the neighbours by the four ways -/
def nbP (w h i : Nat) : Nat → List Nat
  | 0 => if 0 < i / w then [i - w] else []
  | 1 => if 0 < i % w then [i - 1] else []
  | 2 => if i % w + 1 < w then [i + 1] else []
  | 3 => if i / w + 1 < h then [i + w] else []
  | _ => []
def nbK (w h i : Nat) : Nat → List Nat
  | 0 => []
  | k + 1 => nbK w h i k ++ nbP w h i k
theorem nbK_nb (w h i : Nat) : nbK w h i 4 = nb w h i := by simp [nbK, nbP, nb]
theorem nbP0 (w h i : Nat) : nbP w h i 0 = if 0 < i / w then [i - w] else [] := rfl
theorem nbP1 (w h i : Nat) : nbP w h i 1 = if 0 < i % w then [i - 1] else [] := rfl
theorem nbP2 (w h i : Nat) : nbP w h i 2 = if i % w + 1 < w then [i + 1] else [] := rfl
theorem nbP3 (w h i : Nat) : nbP w h i 3 = if i / w + 1 < h then [i + w] else [] := rfl
theorem nbP_len (w h i k : Nat) : (nbP w h i k).length ≤ 1 := by
  unfold nbP
  split <;> (try split) <;> simp
theorem nbK_len (w h i : Nat) : ∀ k, (nbK w h i k).length ≤ k
  | 0 => Nat.le_refl _
  | k + 1 => by rw [nbK, List.length_append]; have := nbK_len w h i k; have := nbP_len w h i k; omega
/-- A region that draws its order, inside a fence, whose operations only read: one walk in the order of the text. -/
theorem region_later_in {F : Fence} {n : Nat} {P : Program} {id : Nat} {Q : Exit → Act → World → Prop} {a : Act} {w : World} {l : List Oper} (hro : F.round = none) (hm : P.follows .mixedOrders = true) (hB : Region.lexB .any l.toArray = true)
    (h : wpQuietIn F n P l.toArray (fun w' => ∃ x : Later w, w' = x.w) (fun a' => ∀ x : Later w, Q .normal a' x.w) l a) : (Code.region id l.toArray true).wpIn F n P Q a w := by
  refine wpIn_region_quiet (C := fun w' => ∃ x : Later w, w' = x.w) hro hm hB ⟨Later.draw _, rfl⟩ ?_
  have e : (fun a' => ∀ x : Later w, Q .normal a' x.w) = (fun a' => ∀ w', (∃ x : Later w, w' = x.w) → Q .normal a' w') := by
    funext a'
    exact propext ⟨fun h w' ⟨x, hx⟩ => hx ▸ h x, fun h x => h _ ⟨x, rfl⟩⟩
  rw [e] at h
  simpa using h
theorem Later.grown {W : World} (x : Later W) : W.grownBy x.w none := ⟨x.le.os, x.le.tape, x.le.output, x.size, fun k hk _ => x.le.block k hk⟩

theorem way0 (W : World) : (Instr.index 106 (.agg #[Value.int .i64 0, Value.int .i64 (-1), Value.int .i64 (-1), Value.int .i64 0, Value.int .i64 1, Value.int .i64 0, Value.int .i64 0, Value.int .i64 1]) (.int .i64 0)).run Try.prog W = .ok (.agg #[Value.int .i64 0, Value.int .i64 (-1)]) W := by kernel_rfl
theorem way1 (W : World) : (Instr.index 106 (.agg #[Value.int .i64 0, Value.int .i64 (-1), Value.int .i64 (-1), Value.int .i64 0, Value.int .i64 1, Value.int .i64 0, Value.int .i64 0, Value.int .i64 1]) (.int .i64 1)).run Try.prog W = .ok (.agg #[Value.int .i64 (-1), Value.int .i64 0]) W := by kernel_rfl
theorem way2 (W : World) : (Instr.index 106 (.agg #[Value.int .i64 0, Value.int .i64 (-1), Value.int .i64 (-1), Value.int .i64 0, Value.int .i64 1, Value.int .i64 0, Value.int .i64 0, Value.int .i64 1]) (.int .i64 2)).run Try.prog W = .ok (.agg #[Value.int .i64 1, Value.int .i64 0]) W := by kernel_rfl
theorem way3 (W : World) : (Instr.index 106 (.agg #[Value.int .i64 0, Value.int .i64 (-1), Value.int .i64 (-1), Value.int .i64 0, Value.int .i64 1, Value.int .i64 0, Value.int .i64 0, Value.int .i64 1]) (.int .i64 3)).run Try.prog W = .ok (.agg #[Value.int .i64 0, Value.int .i64 1]) W := by kernel_rfl
set_option maxRecDepth 100000 in
set_option maxHeartbeats 2000000 in
theorem beside1_in (F : Fence) (n : Nat) (h74 : F.fn 74) (hro : F.round = none) (hn : 1 ≤ n) (l Bp Bb b w h i : Nat) (hs : sized w h) (hi : i < w * h) (J Jx : List (Fin (w * h)) → World → Prop) (W : World)
    (hJ : AbidesFrom W.heap.size J)
    (hY : ∀ pre x W, J pre W → pre.length < 4 → YieldAt F (n - 1) Try.prog l #[.int .i64 (x.1 : Int)] W fun e W' =>
      (e = .returned (.bool true) ∧ J (pre ++ [x]) W' ∧ KpB Bp Bb b W W') ∨ (e = .returned (.bool false) ∧ Jx (pre ++ [x]) W'))
    (hBp : W.cell? ⟨Bp, 0, none⟩ = some (.int .i64 i)) (hBb : W.cell? ⟨Bb, 0, none⟩ = some (.pointer (some ⟨b, 0, none⟩))) (hw : W.cell? ⟨b, 0, none⟩ = some (.int .i64 w)) (hh : W.cell? ⟨b, 1, none⟩ = some (.int .i64 h)) (h0 : J [] W) :
    CallsIn F n Try.prog 74 #[.func (.yield l) #[] #[], .pointer (some ⟨Bp, 0, none⟩), .pointer (some ⟨Bb, 0, none⟩)] W fun e W' => (∃ v, e = .returned v) ∧
      ((∃ ys, ys.map (·.1) = nb w h i ∧ J ys W') ∨ (∃ pre, True ∧ Jx pre W')) := by
  have hw0 : (w : Int) ≠ 0 := by have := hs.1; omega
  have lBp : Bp < W.heap.size := World.block_lt_of_cell? W _ hBp
  have lBb : Bb < W.heap.size := World.block_lt_of_cell? W _ hBb
  have lb : b < W.heap.size := World.block_lt_of_cell? W _ hw
  refine callsIn_of_wp Try.func74 rfl h74 ?_ hro
  simp only [Try.ntmps74, List.size_toArray, List.length_cons, List.length_nil, Nat.reduceAdd, Nat.reduceSub, Array.replicate_succ, Array.replicate_zero, List.push_toArray, List.append_toArray, List.nil_append, List.cons_append]
  gi_wp2
  refine region_later_in hro (by kernel_rfl) (by kernel_rfl) ?_
  repeat (first | gi_big_quiet_step (first
       | (fail)))
  refine wpQuietIn_nil ?_
  intro x
  gi_wp2
  obtain ⟨X, hX⟩ : ∃ X : Nat, i % w = X := ⟨_, rfl⟩
  obtain ⟨Y, hY0⟩ : ∃ Y : Nat, i / w = Y := ⟨_, rfl⟩
  have eX : (i : Int) % (w : Int) = (X : Int) := by rw [← hX]; exact (Int.natCast_emod i w).symm
  have eY : (i : Int) / (w : Int) = (Y : Int) := by rw [← hY0]; exact (Int.natCast_ediv i w).symm
  have hw6 : w ≤ 6 := hs.2.1
  have hh6 : h ≤ 6 := hs.2.2.2
  have hw1 : 1 ≤ w := hs.1
  have hXl : X < w := by rw [← hX]; exact Nat.mod_lt _ hw1
  have hYl : Y < h := by rw [← hY0]; exact (Nat.div_lt_iff_lt_mul hw1).2 (by rw [Nat.mul_comm]; exact hi)
  have hsplit : (Y : Int) * w + X = i := by rw [← hX, ← hY0]; exact_mod_cast Nat.div_add_mod' i w
  have eW : wrap64 ((Y : Int)) = (Y : Int) := IntWalk.wrap64_in _ (by omega)
  rw [eX, eY, eW]
  clear eX eY eW
  gi_loopw [29] (fun d wr => ∃ (k : Nat) (pre : List (Fin (w * h))), k ≤ 4 ∧ d = .int .i64 k ∧ Hid (pre.map (·.1) = nbK w h i k) ∧ J pre wr ∧ KpB Bp Bb b W wr) (fun d _ => 4 - (intOf d).toNat)
  case atStart => exact ⟨0, [], Nat.zero_le _, rfl, rfl, hJ _ _ _ _ h0 x.grown (fun _ h => nomatch h), x.size, x.cell lBp, x.cell lBb, x.cell lb, x.cell lb⟩
  case round =>
    obtain ⟨k, pre, hk, rfl, hpre, hJr, hK⟩ := hrel
    have g1 := hK.2.2.1.trans hBb
    have g2 := hK.2.2.2.1.trans hw
    have g3 := hK.2.2.2.2.trans hh
    have hlen : pre.length < 4 ∨ k = 4 := by
      have h1 := congrArg List.length hpre.out
      rw [List.length_map] at h1
      have := nbK_len w h i k
      omega
    by_cases h4 : k = 4
    · subst h4
      gi_wp2
      go_end0
      exact ⟨⟨_, rfl⟩, .inl ⟨pre, by rw [hpre.out, nbK_nb], hJr⟩⟩
    have hJV : ∀ d0 d1 : Int, ∀ x : Later (wr.alloc (.cells #[.int .i64 d0, .int .i64 d1] 105)), J pre x.w := fun d0 d1 x => hJ _ _ _ _ (hJ _ _ _ _ hJr (Later.new wr _).grown (fun _ h => nomatch h)) x.grown (fun _ h => nomatch h)
    have lBb' : Bb < wr.heap.size := Nat.lt_of_lt_of_le lBb hK.1
    have lb' : b < wr.heap.size := Nat.lt_of_lt_of_le lb hK.1
    obtain rfl | rfl | rfl | rfl : k = 0 ∨ k = 1 ∨ k = 2 ∨ k = 3 := by omega
    · by_cases hc : 0 < Y
      · have hway := way0
        gi_wp2
        have HJ := hJV 0 (-1)
        obtain ⟨V, hV⟩ : ∃ V : Later wr, V.w = wr.alloc (.cells #[Value.int .i64 0, Value.int .i64 (-1)] 105) := ⟨Later.new _ _, rfl⟩
        have v0 : V.w.cell? ⟨wr.heap.size, 0, none⟩ = some (Value.int .i64 0) := by rw [hV]; simp [go_sem]
        have v1 : V.w.cell? ⟨wr.heap.size, 1, none⟩ = some (Value.int .i64 (-1)) := by rw [hV]; simp [go_sem]
        have lV : wr.heap.size < V.w.heap.size := by rw [hV]; simp
        rw [← hV] at HJ ⊢
        clear hV
        have u1 := (V.cell lBb').trans g1
        have u2 := (V.cell lb').trans g2
        have u3 := (V.cell lb').trans g3
        have lBV := Nat.lt_of_lt_of_le lBb' V.size
        have lbV := Nat.lt_of_lt_of_le lb' V.size
        refine region_later_in hro (by kernel_rfl) (by kernel_rfl) ?_
        repeat (first | gi_big_quiet_step (first
             | (fail)))
        refine wpQuietIn_nil ?_
        intro y
        have HJy := HJ y
        clear HJ
        have HKy := hK.t (KpB.of (V.step y) (Nat.lt_of_lt_of_le lBp hK.1) lBb' lb')
        obtain ⟨Jn, hJn⟩ : ∃ Jn : Nat, Jn = i - w := ⟨_, rfl⟩
        have hJl : Jn < w * h := (nb_all hs hi).2.1 Jn (by rw [nb, hX, hY0, hJn]; simp [hc])
        have hYw : 0 < Y → (w : Int) ≤ (Y : Int) * w := fun h0 => by have := Int.mul_le_mul_of_nonneg_right (show (1 : Int) ≤ (Y : Int) by omega) (show (0 : Int) ≤ (w : Int) by omega); omega
        have hYn : (0 : Int) ≤ (Y : Int) * w := Int.mul_nonneg (by omega) (by omega)
        have e0 : ((Y : Int) + -1) * (w : Int) = i - X - w := by rw [Int.add_mul]; omega
        have hi36 : i < 36 := by have := Nat.mul_le_mul hw6 hh6; omega
        have hval : wrap64 (wrap64 (((Y : Int) + -1) * (w : Int)) + (X : Int)) = (Jn : Int) := by rw [e0, IntWalk.wrap64_in ((i : Int) - X - w) (by omega), IntWalk.wrap64_in _ (by omega), hJn]; omega
        have hstep : (pre ++ [(⟨Jn, hJl⟩ : Fin (w * h))]).map (·.1) = nbK w h i 1 := by
          show _ = nbK w h i 0 ++ nbP w h i 0
          rw [List.map_append, hpre.out, nbP0]; simp only [hX, hY0, hc, if_true]; rw [← hJn]; rfl
        have HST := Lib.hid hstep
        clear hstep e0 hYw hYn hi36 hJn
        obtain ⟨fn, tmps, assign, body, hy, hR⟩ := hY pre ⟨Jn, hJl⟩ y.w HJy (by omega)
        dsimp only at hy
        gi_wp2
        refine hR.mono ?_
        rintro e W3 (⟨rfl, hJ3, hk3⟩ | ⟨rfl, hJx3⟩)
        · gi_wp2
          go_roundw
          case rel => exact ⟨1, _, by omega, by rfl, HST, hJ3, HKy.t hk3⟩
          case measure => simp [intOf]
        · gi_wp2
          refine bodyPost_ret (results_none rfl _ _ _) rfl ?_
          exact ⟨⟨_, rfl⟩, .inr ⟨_, trivial, hJx3⟩⟩
      · have hway := way0
        gi_wp2
        have HJ := hJV 0 (-1)
        obtain ⟨V, hV⟩ : ∃ V : Later wr, V.w = wr.alloc (.cells #[Value.int .i64 0, Value.int .i64 (-1)] 105) := ⟨Later.new _ _, rfl⟩
        have v0 : V.w.cell? ⟨wr.heap.size, 0, none⟩ = some (Value.int .i64 0) := by rw [hV]; simp [go_sem]
        have v1 : V.w.cell? ⟨wr.heap.size, 1, none⟩ = some (Value.int .i64 (-1)) := by rw [hV]; simp [go_sem]
        have lV : wr.heap.size < V.w.heap.size := by rw [hV]; simp
        rw [← hV] at HJ ⊢
        clear hV
        have u1 := (V.cell lBb').trans g1
        have u2 := (V.cell lb').trans g2
        have u3 := (V.cell lb').trans g3
        have lBV := Nat.lt_of_lt_of_le lBb' V.size
        have lbV := Nat.lt_of_lt_of_le lb' V.size
        refine region_later_in hro (by kernel_rfl) (by kernel_rfl) ?_
        repeat (first | gi_big_quiet_step (first
             | (fail)))
        refine wpQuietIn_nil ?_
        intro y
        have HJy := HJ y
        clear HJ
        have HKy := hK.t (KpB.of (V.step y) (Nat.lt_of_lt_of_le lBp hK.1) lBb' lb')
        have hstep : pre.map (·.1) = nbK w h i 1 := by
          show _ = nbK w h i 0 ++ nbP w h i 0
          rw [hpre.out, nbP0]; simp only [hX, hY0, hc, if_false]; simp
        have HST := Lib.hid hstep
        clear hstep
        gi_wp2
        refine ⟨⟨1, pre, by omega, by rfl, HST, HJy, HKy⟩, by simp [intOf]⟩
    · by_cases hc : 0 < X
      · have hway := way1
        gi_wp2
        have HJ := hJV (-1) 0
        obtain ⟨V, hV⟩ : ∃ V : Later wr, V.w = wr.alloc (.cells #[Value.int .i64 (-1), Value.int .i64 0] 105) := ⟨Later.new _ _, rfl⟩
        have v0 : V.w.cell? ⟨wr.heap.size, 0, none⟩ = some (Value.int .i64 (-1)) := by rw [hV]; simp [go_sem]
        have v1 : V.w.cell? ⟨wr.heap.size, 1, none⟩ = some (Value.int .i64 0) := by rw [hV]; simp [go_sem]
        have lV : wr.heap.size < V.w.heap.size := by rw [hV]; simp
        rw [← hV] at HJ ⊢
        clear hV
        have u1 := (V.cell lBb').trans g1
        have u2 := (V.cell lb').trans g2
        have u3 := (V.cell lb').trans g3
        have lBV := Nat.lt_of_lt_of_le lBb' V.size
        have lbV := Nat.lt_of_lt_of_le lb' V.size
        refine region_later_in hro (by kernel_rfl) (by kernel_rfl) ?_
        repeat (first | gi_big_quiet_step (first
             | (fail)))
        refine wpQuietIn_nil ?_
        intro y
        have HJy := HJ y
        clear HJ
        have HKy := hK.t (KpB.of (V.step y) (Nat.lt_of_lt_of_le lBp hK.1) lBb' lb')
        obtain ⟨Jn, hJn⟩ : ∃ Jn : Nat, Jn = i - 1 := ⟨_, rfl⟩
        have hJl : Jn < w * h := (nb_all hs hi).2.1 Jn (by rw [nb, hX, hY0, hJn]; simp [hc])
        have hYw : 0 < Y → (w : Int) ≤ (Y : Int) * w := fun h0 => by have := Int.mul_le_mul_of_nonneg_right (show (1 : Int) ≤ (Y : Int) by omega) (show (0 : Int) ≤ (w : Int) by omega); omega
        have hYn : (0 : Int) ≤ (Y : Int) * w := Int.mul_nonneg (by omega) (by omega)
        have e0 : (Y : Int) * (w : Int) = i - X := by omega
        have hi36 : i < 36 := by have := Nat.mul_le_mul hw6 hh6; omega
        have hval : wrap64 (wrap64 ((Y : Int) * (w : Int)) + ((X : Int) + -1)) = (Jn : Int) := by rw [e0, IntWalk.wrap64_in ((i : Int) - X) (by omega), IntWalk.wrap64_in _ (by omega), hJn]; omega
        have hstep : (pre ++ [(⟨Jn, hJl⟩ : Fin (w * h))]).map (·.1) = nbK w h i 2 := by
          show _ = nbK w h i 1 ++ nbP w h i 1
          rw [List.map_append, hpre.out, nbP1]; simp only [hX, hY0, hc, if_true]; rw [← hJn]; rfl
        have HST := Lib.hid hstep
        clear hstep e0 hYw hYn hi36 hJn
        obtain ⟨fn, tmps, assign, body, hy, hR⟩ := hY pre ⟨Jn, hJl⟩ y.w HJy (by omega)
        dsimp only at hy
        gi_wp2
        refine hR.mono ?_
        rintro e W3 (⟨rfl, hJ3, hk3⟩ | ⟨rfl, hJx3⟩)
        · gi_wp2
          go_roundw
          case rel => exact ⟨2, _, by omega, by rfl, HST, hJ3, HKy.t hk3⟩
          case measure => simp [intOf]
        · gi_wp2
          refine bodyPost_ret (results_none rfl _ _ _) rfl ?_
          exact ⟨⟨_, rfl⟩, .inr ⟨_, trivial, hJx3⟩⟩
      · have hway := way1
        gi_wp2
        have HJ := hJV (-1) 0
        obtain ⟨V, hV⟩ : ∃ V : Later wr, V.w = wr.alloc (.cells #[Value.int .i64 (-1), Value.int .i64 0] 105) := ⟨Later.new _ _, rfl⟩
        have v0 : V.w.cell? ⟨wr.heap.size, 0, none⟩ = some (Value.int .i64 (-1)) := by rw [hV]; simp [go_sem]
        have v1 : V.w.cell? ⟨wr.heap.size, 1, none⟩ = some (Value.int .i64 0) := by rw [hV]; simp [go_sem]
        have lV : wr.heap.size < V.w.heap.size := by rw [hV]; simp
        rw [← hV] at HJ ⊢
        clear hV
        have u1 := (V.cell lBb').trans g1
        have u2 := (V.cell lb').trans g2
        have u3 := (V.cell lb').trans g3
        have lBV := Nat.lt_of_lt_of_le lBb' V.size
        have lbV := Nat.lt_of_lt_of_le lb' V.size
        refine region_later_in hro (by kernel_rfl) (by kernel_rfl) ?_
        repeat (first | gi_big_quiet_step (first
             | (fail)))
        refine wpQuietIn_nil ?_
        intro y
        have HJy := HJ y
        clear HJ
        have HKy := hK.t (KpB.of (V.step y) (Nat.lt_of_lt_of_le lBp hK.1) lBb' lb')
        have hstep : pre.map (·.1) = nbK w h i 2 := by
          show _ = nbK w h i 1 ++ nbP w h i 1
          rw [hpre.out, nbP1]; simp only [hX, hY0, hc, if_false]; simp
        have HST := Lib.hid hstep
        clear hstep
        gi_wp2
        refine ⟨⟨2, pre, by omega, by rfl, HST, HJy, HKy⟩, by simp [intOf]⟩
    · by_cases hc : X + 1 < w
      · have hway := way2
        gi_wp2
        have HJ := hJV 1 0
        obtain ⟨V, hV⟩ : ∃ V : Later wr, V.w = wr.alloc (.cells #[Value.int .i64 1, Value.int .i64 0] 105) := ⟨Later.new _ _, rfl⟩
        have v0 : V.w.cell? ⟨wr.heap.size, 0, none⟩ = some (Value.int .i64 1) := by rw [hV]; simp [go_sem]
        have v1 : V.w.cell? ⟨wr.heap.size, 1, none⟩ = some (Value.int .i64 0) := by rw [hV]; simp [go_sem]
        have lV : wr.heap.size < V.w.heap.size := by rw [hV]; simp
        rw [← hV] at HJ ⊢
        clear hV
        have u1 := (V.cell lBb').trans g1
        have u2 := (V.cell lb').trans g2
        have u3 := (V.cell lb').trans g3
        have lBV := Nat.lt_of_lt_of_le lBb' V.size
        have lbV := Nat.lt_of_lt_of_le lb' V.size
        refine region_later_in hro (by kernel_rfl) (by kernel_rfl) ?_
        repeat (first | gi_big_quiet_step (first
             | (fail)))
        refine wpQuietIn_nil ?_
        intro y
        have HJy := HJ y
        clear HJ
        have HKy := hK.t (KpB.of (V.step y) (Nat.lt_of_lt_of_le lBp hK.1) lBb' lb')
        obtain ⟨Jn, hJn⟩ : ∃ Jn : Nat, Jn = i + 1 := ⟨_, rfl⟩
        have hJl : Jn < w * h := (nb_all hs hi).2.1 Jn (by rw [nb, hX, hY0, hJn]; simp [hc])
        have hYw : 0 < Y → (w : Int) ≤ (Y : Int) * w := fun h0 => by have := Int.mul_le_mul_of_nonneg_right (show (1 : Int) ≤ (Y : Int) by omega) (show (0 : Int) ≤ (w : Int) by omega); omega
        have hYn : (0 : Int) ≤ (Y : Int) * w := Int.mul_nonneg (by omega) (by omega)
        have e0 : (Y : Int) * (w : Int) = i - X := by omega
        have hi36 : i < 36 := by have := Nat.mul_le_mul hw6 hh6; omega
        have hval : wrap64 (wrap64 ((Y : Int) * (w : Int)) + ((X : Int) + 1)) = (Jn : Int) := by rw [e0, IntWalk.wrap64_in ((i : Int) - X) (by omega), IntWalk.wrap64_in _ (by omega), hJn]; omega
        have hstep : (pre ++ [(⟨Jn, hJl⟩ : Fin (w * h))]).map (·.1) = nbK w h i 3 := by
          show _ = nbK w h i 2 ++ nbP w h i 2
          rw [List.map_append, hpre.out, nbP2]; simp only [hX, hY0, hc, if_true]; rw [← hJn]; rfl
        have HST := Lib.hid hstep
        clear hstep e0 hYw hYn hi36 hJn
        obtain ⟨fn, tmps, assign, body, hy, hR⟩ := hY pre ⟨Jn, hJl⟩ y.w HJy (by omega)
        dsimp only at hy
        gi_wp2
        refine hR.mono ?_
        rintro e W3 (⟨rfl, hJ3, hk3⟩ | ⟨rfl, hJx3⟩)
        · gi_wp2
          go_roundw
          case rel => exact ⟨3, _, by omega, by rfl, HST, hJ3, HKy.t hk3⟩
          case measure => simp [intOf]
        · gi_wp2
          refine bodyPost_ret (results_none rfl _ _ _) rfl ?_
          exact ⟨⟨_, rfl⟩, .inr ⟨_, trivial, hJx3⟩⟩
      · have hway := way2
        gi_wp2
        have HJ := hJV 1 0
        obtain ⟨V, hV⟩ : ∃ V : Later wr, V.w = wr.alloc (.cells #[Value.int .i64 1, Value.int .i64 0] 105) := ⟨Later.new _ _, rfl⟩
        have v0 : V.w.cell? ⟨wr.heap.size, 0, none⟩ = some (Value.int .i64 1) := by rw [hV]; simp [go_sem]
        have v1 : V.w.cell? ⟨wr.heap.size, 1, none⟩ = some (Value.int .i64 0) := by rw [hV]; simp [go_sem]
        have lV : wr.heap.size < V.w.heap.size := by rw [hV]; simp
        rw [← hV] at HJ ⊢
        clear hV
        have u1 := (V.cell lBb').trans g1
        have u2 := (V.cell lb').trans g2
        have u3 := (V.cell lb').trans g3
        have lBV := Nat.lt_of_lt_of_le lBb' V.size
        have lbV := Nat.lt_of_lt_of_le lb' V.size
        refine region_later_in hro (by kernel_rfl) (by kernel_rfl) ?_
        repeat (first | gi_big_quiet_step (first
             | (fail)))
        refine wpQuietIn_nil ?_
        intro y
        have HJy := HJ y
        clear HJ
        have HKy := hK.t (KpB.of (V.step y) (Nat.lt_of_lt_of_le lBp hK.1) lBb' lb')
        have hstep : pre.map (·.1) = nbK w h i 3 := by
          show _ = nbK w h i 2 ++ nbP w h i 2
          rw [hpre.out, nbP2]; simp only [hX, hY0, hc, if_false]; simp
        have HST := Lib.hid hstep
        clear hstep
        gi_wp2
        refine ⟨⟨3, pre, by omega, by rfl, HST, HJy, HKy⟩, by simp [intOf]⟩
    · by_cases hc : Y + 1 < h
      · have hway := way3
        gi_wp2
        have HJ := hJV 0 1
        obtain ⟨V, hV⟩ : ∃ V : Later wr, V.w = wr.alloc (.cells #[Value.int .i64 0, Value.int .i64 1] 105) := ⟨Later.new _ _, rfl⟩
        have v0 : V.w.cell? ⟨wr.heap.size, 0, none⟩ = some (Value.int .i64 0) := by rw [hV]; simp [go_sem]
        have v1 : V.w.cell? ⟨wr.heap.size, 1, none⟩ = some (Value.int .i64 1) := by rw [hV]; simp [go_sem]
        have lV : wr.heap.size < V.w.heap.size := by rw [hV]; simp
        rw [← hV] at HJ ⊢
        clear hV
        have u1 := (V.cell lBb').trans g1
        have u2 := (V.cell lb').trans g2
        have u3 := (V.cell lb').trans g3
        have lBV := Nat.lt_of_lt_of_le lBb' V.size
        have lbV := Nat.lt_of_lt_of_le lb' V.size
        refine region_later_in hro (by kernel_rfl) (by kernel_rfl) ?_
        repeat (first | gi_big_quiet_step (first
             | (fail)))
        refine wpQuietIn_nil ?_
        intro y
        have HJy := HJ y
        clear HJ
        have HKy := hK.t (KpB.of (V.step y) (Nat.lt_of_lt_of_le lBp hK.1) lBb' lb')
        obtain ⟨Jn, hJn⟩ : ∃ Jn : Nat, Jn = i + w := ⟨_, rfl⟩
        have hJl : Jn < w * h := (nb_all hs hi).2.1 Jn (by rw [nb, hX, hY0, hJn]; simp [hc])
        have hYw : 0 < Y → (w : Int) ≤ (Y : Int) * w := fun h0 => by have := Int.mul_le_mul_of_nonneg_right (show (1 : Int) ≤ (Y : Int) by omega) (show (0 : Int) ≤ (w : Int) by omega); omega
        have hYn : (0 : Int) ≤ (Y : Int) * w := Int.mul_nonneg (by omega) (by omega)
        have e0 : ((Y : Int) + 1) * (w : Int) = i - X + w := by rw [Int.add_mul]; omega
        have hi36 : i < 36 := by have := Nat.mul_le_mul hw6 hh6; omega
        have hval : wrap64 (wrap64 (((Y : Int) + 1) * (w : Int)) + (X : Int)) = (Jn : Int) := by rw [e0, IntWalk.wrap64_in ((i : Int) - X + w) (by omega), IntWalk.wrap64_in _ (by omega), hJn]; omega
        have hstep : (pre ++ [(⟨Jn, hJl⟩ : Fin (w * h))]).map (·.1) = nbK w h i 4 := by
          show _ = nbK w h i 3 ++ nbP w h i 3
          rw [List.map_append, hpre.out, nbP3]; simp only [hX, hY0, hc, if_true]; rw [← hJn]; rfl
        have HST := Lib.hid hstep
        clear hstep e0 hYw hYn hi36 hJn
        obtain ⟨fn, tmps, assign, body, hy, hR⟩ := hY pre ⟨Jn, hJl⟩ y.w HJy (by omega)
        dsimp only at hy
        gi_wp2
        refine hR.mono ?_
        rintro e W3 (⟨rfl, hJ3, hk3⟩ | ⟨rfl, hJx3⟩)
        · gi_wp2
          go_roundw
          case rel => exact ⟨4, _, by omega, by rfl, HST, hJ3, HKy.t hk3⟩
          case measure => simp [intOf]
        · gi_wp2
          refine bodyPost_ret (results_none rfl _ _ _) rfl ?_
          exact ⟨⟨_, rfl⟩, .inr ⟨_, trivial, hJx3⟩⟩
      · have hway := way3
        gi_wp2
        have HJ := hJV 0 1
        obtain ⟨V, hV⟩ : ∃ V : Later wr, V.w = wr.alloc (.cells #[Value.int .i64 0, Value.int .i64 1] 105) := ⟨Later.new _ _, rfl⟩
        have v0 : V.w.cell? ⟨wr.heap.size, 0, none⟩ = some (Value.int .i64 0) := by rw [hV]; simp [go_sem]
        have v1 : V.w.cell? ⟨wr.heap.size, 1, none⟩ = some (Value.int .i64 1) := by rw [hV]; simp [go_sem]
        have lV : wr.heap.size < V.w.heap.size := by rw [hV]; simp
        rw [← hV] at HJ ⊢
        clear hV
        have u1 := (V.cell lBb').trans g1
        have u2 := (V.cell lb').trans g2
        have u3 := (V.cell lb').trans g3
        have lBV := Nat.lt_of_lt_of_le lBb' V.size
        have lbV := Nat.lt_of_lt_of_le lb' V.size
        refine region_later_in hro (by kernel_rfl) (by kernel_rfl) ?_
        repeat (first | gi_big_quiet_step (first
             | (fail)))
        refine wpQuietIn_nil ?_
        intro y
        have HJy := HJ y
        clear HJ
        have HKy := hK.t (KpB.of (V.step y) (Nat.lt_of_lt_of_le lBp hK.1) lBb' lb')
        have hstep : pre.map (·.1) = nbK w h i 4 := by
          show _ = nbK w h i 3 ++ nbP w h i 3
          rw [hpre.out, nbP3]; simp only [hX, hY0, hc, if_false]; simp
        have HST := Lib.hid hstep
        clear hstep
        gi_wp2
        refine ⟨⟨4, pre, by omega, by rfl, HST, HJy, HKy⟩, by simp [intOf]⟩
set_option maxHeartbeats 1000000 in
/-- b.beside(place): the place and the block are boxed. -/
theorem beside_in (F : Fence) (n : Nat) (h68 : F.fn 68) (hro : F.round = none) (pv : Option Addr) (i : Int) (W : World) :
    CallsIn F n Try.prog 68 #[.pointer pv, .int .i64 i] W fun e W' => e = .returned (.func (.func 74) #[] #[.pointer (some ⟨W.heap.size + 1, 0, none⟩), .pointer (some ⟨W.heap.size, 0, none⟩)]) ∧ W' = (W.alloc (.cells #[.pointer pv] 69)).alloc (.cells #[.int .i64 i] 3) := by
  refine callsIn_of_wp Try.func68 rfl h68 ?_ hro
  simp only [Try.ntmps68, List.size_toArray, List.length_cons, List.length_nil, Nat.reduceAdd, Nat.reduceSub, Array.replicate_succ, Array.replicate_zero, List.push_toArray, List.append_toArray, List.nil_append, List.cons_append]
  gi_wp2
  go_ret
  exact ⟨rfl, rfl⟩
theorem beside_stops (F : Fence) (n : Nat) (h74 : F.fn 74) (hro : F.round = none) (hn : 1 ≤ n) (Bp Bb b w h i : Nat) (hs : sized w h) (hi : i < w * h) (W0 : World)
    (hBp : W0.cell? ⟨Bp, 0, none⟩ = some (.int .i64 i)) (hBb : W0.cell? ⟨Bb, 0, none⟩ = some (.pointer (some ⟨b, 0, none⟩))) (hw : W0.cell? ⟨b, 0, none⟩ = some (.int .i64 w)) (hh : W0.cell? ⟨b, 1, none⟩ = some (.int .i64 h)) :
    SeqStopsK F n Try.prog 74 #[.pointer (some ⟨Bp, 0, none⟩), .pointer (some ⟨Bb, 0, none⟩)] (fun x : Fin (w * h) => #[Value.int .i64 (x.1 : Int)]) (KpB Bp Bb b) (fun ys => ys.map (·.1) = nb w h i) (fun _ => True) 4 W0 := fun l J Jx W hW hJ _ hY h0 =>
  beside1_in F n h74 hro hn l Bp Bb b w h i hs hi J Jx W hJ hY ((hW.cell (p := ⟨Bp, 0, none⟩) (World.block_lt_of_cell? W0 _ hBp)).trans hBp) ((hW.cell (p := ⟨Bb, 0, none⟩) (World.block_lt_of_cell? W0 _ hBb)).trans hBb)
    ((hW.cell (p := ⟨b, 0, none⟩) (World.block_lt_of_cell? W0 _ hw)).trans hw) ((hW.cell (p := ⟨b, 1, none⟩) (World.block_lt_of_cell? W0 _ hh)).trans hh) h0
end Go.Proofs.Ytbjmfhlkmklmmaa

/-  The program's hit: so many blows at a place. -/
namespace Go.Proofs.Ytbjmfhlkmklmmaa
open Go.RowKit Go.Shelf
attribute [local go_sem] Oper.semAt_some

theorem grownBy_setCell_at (w : World) (b k : Nat) (u : Value) : w.grownBy (w.setCell ⟨b, k, none⟩ u) (some b) := ⟨rfl, rfl, rfl, by simp [World.setCell], fun j _ hne => Below.heap_setCell _ _ _ j (fun e => hne (by rw [e]))⟩
theorem Later.keeps {W : World} (x : Later W) (B : Nat) : KeepsFrom B W x.w := ⟨x.size, fun k o _ hk _ => (x.le.block k (Array.getElem?_eq_some_iff.1 hk).1).trans hk⟩
theorem KpB.set {Bp Bb b : Nat} (h1 : Bp ≠ b) (h2 : Bb ≠ b) (W : World) (j : Nat) (v : Value) : KpB Bp Bb b W (W.setCell ⟨b, 3 + j, none⟩ v) :=
  ⟨by simp [World.setCell], World.cell?_setCell_other _ _ _ _ (fun e => by injection e with e1 e2; omega), World.cell?_setCell_other _ _ _ _ (fun e => by injection e with e1 e2; omega), World.cell?_setCell_other _ _ _ _ (fun e => by injection e with e1 e2; omega), World.cell?_setCell_other _ _ _ _ (fun e => by injection e with e1 e2; omega)⟩
theorem addAll_snoc (n : Int) (l : List Nat) (x : Nat) (d : List Int) : addAll n (l ++ [x]) d = addAt (addAll n l d) x n := by rw [addAll, List.foldl_append]; rfl
theorem addAt_mem_len {d : List Int} (i : Nat) (n : Int) (h : d.length = 36) : (addAt d i n).length = 36 := by rw [addAt_len, h]
/-- what stands while so many blows are done at a place -/
structure HitW (W U : World) (s0 b w h : Nat) (n : Int) (dv : Value) (now bl : List Int) : Prop where
  blk : Blk U b w h dv now bl
  bp : Boxed U s0 69 (.pointer (some ⟨b, 0, none⟩))
  bn : Boxed U (s0 + 1) 2 (.int .i64 n)
  but : But s0 b W U
  lt : b < s0
section
variable {W U : World} {s0 b w h : Nat} {n : Int} {dv : Value} {now bl : List Int}
theorem HitW.grown (hh : HitW W U s0 b w h n dv now bl) {U' : World} {row : Option Nat} (hg : U.grownBy U' row) (hr : ∀ r, row = some r → s0 ≤ r ∧ ∃ o : Obj, U.heap[r]? = some o ∧ o.isCells = false) : HitW W U' s0 b w h n dv now bl := by
  have hne : ∀ c v T k, U.heap[c]? = some (.cells v T k) → some c ≠ row := fun c v T k hc e => by
    obtain ⟨o, ho, hcl⟩ := (hr c e.symm).2
    rw [hc] at ho
    cases ho
    cases hcl
  refine ⟨hh.blk.kept hg (hne _ _ _ _ hh.blk.heap), hh.bp.kept hg (hne _ _ _ _ hh.bp), hh.bn.kept hg (hne _ _ _ _ hh.bn), ⟨hg.os.trans hh.but.os, hg.tape.trans hh.but.tape, hg.output.trans hh.but.output, Nat.le_trans hh.but.size hg.size, fun k hk hkb => ?_⟩, hh.lt⟩
  have hs := hh.bp.lt
  exact (hg.block k (by omega) (fun e => by have := (hr k e.symm).1; omega)).trans (hh.but.block k hk hkb)
theorem HitW.later (hh : HitW W U s0 b w h n dv now bl) (x : Later U) : HitW W x.w s0 b w h n dv now bl := hh.grown x.grown (fun _ h => nomatch h)
theorem HitW.set (hh : HitW W U s0 b w h n dv now bl) (j : Nat) (v : Value) : Boxed (U.setCell ⟨b, j, none⟩ v) s0 69 (.pointer (some ⟨b, 0, none⟩)) ∧ Boxed (U.setCell ⟨b, j, none⟩ v) (s0 + 1) 2 (.int .i64 n) ∧ But s0 b W (U.setCell ⟨b, j, none⟩ v) := by
  have := hh.lt
  exact ⟨hh.bp.kept (grownBy_setCell_at U b j v) (fun e => by cases e; omega), hh.bn.kept (grownBy_setCell_at U b j v) (fun e => by cases e; omega), hh.but.set j v⟩
theorem HitW.setN (hh : HitW W U s0 b w h n dv now bl) {k : Nat} (hk : k < 36) (c : Int) : HitW W (U.setCell ⟨b, 3 + k, none⟩ (.int .i64 (nth now k + c))) s0 b w h n dv (addAt now k c) bl :=
  ⟨hh.blk.setN hk _, (hh.set _ _).1, (hh.set _ _).2.1, (hh.set _ _).2.2, hh.lt⟩
theorem HitW.setB (hh : HitW W U s0 b w h n dv now bl) {k : Nat} (hk : k < 36) (c : Int) : HitW W (U.setCell ⟨b, 39 + k, none⟩ (.int .i64 (nth bl k + c))) s0 b w h n dv now (addAt bl k c) :=
  ⟨hh.blk.setB hk _, (hh.set _ _).1, (hh.set _ _).2.1, (hh.set _ _).2.2, hh.lt⟩
theorem HitW.sb (hh : HitW W U s0 b w h n dv now bl) : b < U.heap.size := hh.blk.lt
end
set_option maxRecDepth 100000 in
set_option maxHeartbeats 2000000 in
theorem hit_in (F : Fence) (m : Nat) (h53 : F.fn 53) (h68 : F.fn 68) (h74 : F.fn 74) (hro : F.round = none) (hm : 6 ≤ m)
    (b w h i : Nat) (n : Int) (dv : Value) (now bl : List Int) (hs : sized w h) (hi : i < w * h) (W : World) (hb : Blk W b w h dv now bl) (ht : tame now 1000000000) (hu : tame bl 1000000000) (hn0 : 0 ≤ n) (hn : n ≤ 1000000000) :
    CallsIn F m Try.prog 53 #[.pointer (some ⟨b, 0, none⟩), .int .i64 i, .int .i64 n] W fun e W' => (∃ v, e = .returned v) ∧ Blk W' b w h dv (hitL w h now i n) (addAt bl i n) ∧ But W.heap.size b W W' := by
  have h1 : 1 ≤ m := by omega
  have h36 : w * h ≤ 36 := Nat.mul_le_mul hs.2.1 hs.2.2.2
  have hi36 : i < 36 := by omega
  have hlb := hb.lt
  have g1 := hb.cellN hi36
  have g2 := hb.cellB hi36
  have f1 := hb.frozen (3 + i)
  have f2 := hb.frozen (39 + i)
  have ht1 := ht i (by rw [hb.len1]; exact hi36)
  have hu1 := hu i (by rw [hb.len2]; exact hi36)
  have e1 : IntKind.i64.wrap (4 * n) = 4 * n := IntWalk.i64_in _ (by omega)
  have e2 : IntKind.i64.wrap (nth now i - 4 * n) = nth now i - 4 * n := IntWalk.i64_in _ (by rw [nth_ofL]; omega)
  have e3 : IntKind.i64.wrap (nth bl i + n) = nth bl i + n := IntWalk.i64_in _ (by rw [nth_ofL]; omega)
  refine callsIn_of_wp_marks Try.func53 rfl h53 ?_ hro
  simp only [Try.ntmps53, List.size_toArray, List.length_cons, List.length_nil, Nat.reduceAdd, Nat.reduceSub, Array.replicate_succ, Array.replicate_zero, List.push_toArray, List.append_toArray, List.nil_append, List.cons_append]
  gi_wp2
  obtain ⟨s0, hs0⟩ : ∃ s0, s0 = W.heap.size := ⟨_, rfl⟩
  have hH : HitW W ((W.alloc (.cells #[.pointer (some ⟨b, 0, none⟩)] 69)).alloc (.cells #[.int .i64 n] 2)) s0 b w h n dv now bl := by
    refine ⟨(hb.later (Later.new W _)).later (Later.new _ _), by rw [hs0]; exact (Boxed.new W _ _).alloc _, ?_, by rw [hs0]; exact But.below ((Later.new W _).step (Later.new _ _)).le, by omega⟩
    rw [hs0]
    have := Boxed.new (W.alloc (.cells #[.pointer (some ⟨b, 0, none⟩)] 69)) 2 (.int .i64 n)
    simpa using this
  obtain ⟨V, hV⟩ : ∃ V : World, V = (W.alloc (.cells #[.pointer (some ⟨b, 0, none⟩)] 69)).alloc (.cells #[.int .i64 n] 2) := ⟨_, rfl⟩
  rw [← hV] at hH ⊢
  rw [← hs0]
  have HS0 := Lib.hid hs0
  clear hV hb g1 g2 f1 f2 hs0 hlb
  have c1 := hH.blk.cellN hi36
  have c2 := hH.blk.cellB hi36
  have c3 := hH.blk.frozen (3 + i)
  have c4 := hH.blk.frozen (39 + i)
  have c5 := hH.bp.cell
  have c6 := hH.bn.cell
  have lb := hH.sb
  have l0 := hH.bp.lt
  have l1 := hH.bn.lt
  refine Mix.region_mixL_in (Mix.kinds [] [] [12]) (by kernel_rfl) (by kernel_rfl) (by kernel_rfl) ?_
  repeat ((with_reducible refine Mix.atCons ?_); first | refine Mix.skipU (by rfl) rfl (by rfl) ?_ | (refine Mix.val rfl rfl (by rfl) (fun K hK => ?_); go_big_quiet_op; refine hK _ ?_; clear hK K))
  refine Mix.last rfl (by rfl) (fun x K hK => ?_)
  have hHx := hH.later x
  have d1 := hHx.blk.cellN hi36
  have d3 := hHx.blk.frozen (3 + i)
  have hst := hHx.setN hi36 (-(4 * n))
  rw [← Int.sub_eq_add_neg] at hst
  clear hHx c1 c2 c3 c4 c5 c6 lb l0 l1
  go_wp2_with fail
  refine Mix.done (fun y => ?_)
  clear d1 d3
  replace hst := hst.later y
  obtain ⟨V2, hV2⟩ : ∃ V2, V2 = y.w := ⟨_, rfl⟩
  rw [← hV2] at hst ⊢
  clear hV2 y x hH
  gi_wp2
  have c1 := hst.blk.cellN hi36
  have c2 := hst.blk.cellB hi36
  have c3 := hst.blk.frozen (3 + i)
  have c4 := hst.blk.frozen (39 + i)
  have c5 := hst.bp.cell
  have c6 := hst.bn.cell
  have lb := hst.sb
  have l0 := hst.bp.lt
  have l1 := hst.bn.lt
  refine Mix.region_mixL_in (Mix.kinds [] [] [11]) (by kernel_rfl) (by kernel_rfl) (by kernel_rfl) ?_
  repeat ((with_reducible refine Mix.atCons ?_); first | refine Mix.skipU (by rfl) rfl (by rfl) ?_ | (refine Mix.val rfl rfl (by rfl) (fun K hK => ?_); go_big_quiet_op; refine hK _ ?_; clear hK K))
  refine Mix.last rfl (by rfl) (fun x K hK => ?_)
  have hHx := hst.later x
  have d1 := hHx.blk.cellB hi36
  have d3 := hHx.blk.frozen (39 + i)
  replace hst := hHx.setB hi36 n
  clear hHx c1 c2 c3 c4 c5 c6 lb l0 l1
  go_wp2_with fail
  refine Mix.done (fun y => ?_)
  clear d1 d3
  replace hst := hst.later y
  obtain ⟨V3, hV3⟩ : ∃ V3, V3 = y.w := ⟨_, rfl⟩
  rw [← hV3] at hst ⊢
  clear hV3 y x
  have c5 := hst.bp.cell
  gi_wp2_with (gi_at_call 68; refine (beside_in F (m - 1) h68 hro _ _ _).mono ?_; rintro e w' ⟨rfl, rfl⟩)
  obtain ⟨p0, hp0⟩ : ∃ p0, p0 = V3.heap.size := ⟨_, rfl⟩
  have hU := (hst.later (Later.new V3 (.cells #[.pointer (some ⟨b, 0, none⟩)] 69))).later (Later.new _ (.cells #[.int .i64 i] 3))
  have k1 : ((V3.alloc (.cells #[.pointer (some ⟨b, 0, none⟩)] 69)).alloc (.cells #[.int .i64 i] 3)).cell? ⟨p0, 0, none⟩ = some (.pointer (some ⟨b, 0, none⟩)) := by rw [hp0]; exact ((Boxed.new V3 _ _).alloc _).cell
  have k2 : ((V3.alloc (.cells #[.pointer (some ⟨b, 0, none⟩)] 69)).alloc (.cells #[.int .i64 i] 3)).cell? ⟨p0 + 1, 0, none⟩ = some (.int .i64 i) := by
    rw [hp0]; simp [go_sem]
  have k3 : ((V3.alloc (.cells #[.pointer (some ⟨b, 0, none⟩)] 69)).alloc (.cells #[.int .i64 i] 3)).heap.size = p0 + 2 := by rw [hp0]; simp
  have k4 : s0 + 1 < p0 := by rw [hp0]; exact hst.bn.lt
  simp only [Later.new_w] at hU
  obtain ⟨U0, hU0⟩ : ∃ U0, U0 = ((V3.alloc (.cells #[.pointer (some ⟨b, 0, none⟩)] 69)).alloc (.cells #[.int .i64 i] 3)) := ⟨_, rfl⟩
  rw [← hU0] at hU k1 k2 k3 ⊢
  rw [← hp0]
  have HP0 := Lib.hid hp0
  clear hU0 hst hp0 c5
  have hbs := hU.lt
  have ht0 := addAt_tame ht (i := i) (by have := hU.blk.len1; simp [addAt_len] at this; omega) (n := -(4 * n)) (C := 4000000000) ⟨by omega, by omega⟩
  have hl0 : (addAt now i (-(4 * n))).length = 36 := hU.blk.len1
  refine wpIn_rangeFunc_ownG hro h1 (gf := 74) (lb := #[.pointer (some ⟨p0 + 1, 0, none⟩), .pointer (some ⟨p0, 0, none⟩)]) rfl h74 (enters_of Try.func74 (by kernel_rfl) rfl)
    (beside_stops F (m - 1) h74 hro (by omega) (p0 + 1) p0 b w h i hs hi U0 k2 k1 hU.blk.cellW hU.blk.cellH) (fun h k => h.t k) (KpB.b (by omega) (by omega) (by omega)) (Below.refl _ _) (fun _ => rfl)
    (fun pre U => HitW W U s0 b w h n dv (addAll n (pre.map (·.1)) (addAt now i (-(4 * n)))) (addAt bl i n) ∧ U0.heap.size ≤ U.heap.size)
    (fun _ _ _ => False)
    (fun pre A B row hs hg hr => ⟨hs.1.grown hg (fun r e => ⟨by have := (hr r e).1; omega, (hr r e).2⟩), Nat.le_trans hs.2 hg.size⟩)
    (fun _ _ _ _ _ hs _ _ => hs)
    ⟨hU, Nat.le_refl _⟩
    (fun x => { tmps := #[Value.pointer (some { block := b, off := 0, spot := none }), Value.int IntKind.i64 ↑i, Value.int IntKind.i64 n, Value.pointer (some { block := s0, off := 0, spot := none }), undef, Value.pointer (some { block := s0 + 1, off := 0, spot := none }), .int .i64 (x.1 : Int), Value.pointer (some { block := b, off := 0, spot := none }), Value.int IntKind.i64 ↑i, Value.pointer (some { block := b, off := 0, spot := none }), Value.pointer (some { block := b, off := 3 }), Value.pointer (some { block := b, off := 3 + i }), Value.int IntKind.i64 (nth now i), Value.int IntKind.i64 n, Value.int IntKind.i64 (4 * n), Value.int IntKind.i64 (nth now i - 4 * n), Value.pointer (some { block := b, off := 0, spot := none }), Value.pointer (some { block := b, off := 3 }), Value.pointer (some { block := b, off := 3 + i }), Value.pointer (some { block := b, off := 0, spot := none }), Value.int IntKind.i64 ↑i, Value.pointer (some { block := b, off := 0, spot := none }), Value.pointer (some { block := b, off := 39 }), Value.pointer (some { block := b, off := 39 + i }), Value.int IntKind.i64 (nth bl i), Value.int IntKind.i64 n, Value.int IntKind.i64 (nth bl i + n), Value.pointer (some { block := b, off := 0, spot := none }), Value.pointer (some { block := b, off := 39 }), Value.pointer (some { block := b, off := 39 + i }), Value.pointer (some { block := b, off := 0, spot := none }), Value.int IntKind.i64 ↑i, Value.func (Fn.func 74) #[] #[Value.pointer (some { block := p0 + 1, off := 0, spot := none }), Value.pointer (some { block := p0, off := 0, spot := none })], .int .i64 (x.1 : Int), undef, undef, undef, undef, undef, undef, undef, undef, undef, undef, undef], defers := [] }) ?assign ?body ?done ?stop
  case assign =>
    intro l x U K hK
    gi_wp2
    exact hK
  case body =>
    rintro l pre x U ⟨hh, hUs⟩ hlt
    obtain ⟨j, hjl⟩ := x
    have hj36 : j < 36 := by omega
    have hUsz : p0 + 1 < U.heap.size := by omega
    have hla : (addAll n (pre.map (·.1)) (addAt now i (-(4 * n)))).length = 36 := hh.blk.len1
    have htp := addAll_tame hn0 (pre.map (·.1)) _ ht0 (fun y hy => by
      obtain ⟨z, _, rfl⟩ := List.mem_map.1 hy
      have := z.2
      rw [hl0]; omega) j (by omega)
    rw [List.length_map] at htp
    have hmul : (pre.length : Int) * n ≤ 4 * n := Int.mul_le_mul_of_nonneg_right (by omega) hn0
    obtain ⟨A, hA⟩ : ∃ A, addAll n (pre.map (·.1)) (addAt now i (-(4 * n))) = A := ⟨_, rfl⟩
    have hsn := addAll_snoc n (pre.map (·.1)) j (addAt now i (-(4 * n)))
    rw [hA] at hh hla htp hsn
    have e4 : IntKind.i64.wrap (nth A j + n) = nth A j + n := IntWalk.i64_in _ (by rw [nth_ofL]; omega)
    clear e1 e2 e3 htp hmul hA
    have c1 := hh.blk.cellN hj36
    have c3 := hh.blk.frozen (3 + j)
    have c5 := hh.bp.cell
    have c6 := hh.bn.cell
    have lb := hh.sb
    have l0 := hh.bp.lt
    have l1 := hh.bn.lt
    gi_wp2
    refine Mix.region_mixL_in (Mix.kinds [] [] [11]) (by kernel_rfl) (by kernel_rfl) (by kernel_rfl) ?_
    repeat ((with_reducible refine Mix.atCons ?_); first | refine Mix.skipU (by rfl) rfl (by rfl) ?_ | (refine Mix.val rfl rfl (by rfl) (fun K hK => ?_); go_big_quiet_op; refine hK _ ?_; clear hK K))
    refine Mix.last rfl (by rfl) (fun x K hK => ?_)
    have hHx := hh.later x
    have d1 := hHx.blk.cellN hj36
    have d3 := hHx.blk.frozen (3 + j)
    have hst := hHx.setN hj36 n
    clear hHx c1 c3 c5 c6 lb l0 l1
    go_wp2_with fail
    refine Mix.done (fun y => ?_)
    have hfin := hst.later y
    rw [← hsn] at hfin
    gi_wp2
    refine ⟨((x.keeps _).trans ((KeepsOthers.setCell _ _ _).from _)).trans (y.keeps _), ((KpB.of x ?_ ?_ ?_).t (KpB.set (by omega) (by omega) _ _ _)).t (KpB.of y ?_ ?_ ?_), ?_⟩
    all_goals first | exact And.intro (by show HitW W y.w s0 b w h n dv (addAll n ((pre ++ [(⟨j, hjl⟩ : Fin (w * h))]).map (·.1)) _) _; rw [List.map_append]; exact hfin) (Nat.le_trans hUs (Nat.le_trans x.size (Nat.le_trans (by simp [World.setCell]) y.size))) | skip
    all_goals (have := hUsz; have := x.size; have := hh.lt; first | omega | (simp [World.setCell]; omega))
  case done =>
    rintro D ys U hD hys ⟨hh, hUs⟩ hK
    gi_wp2
    refine ⟨by simp, .inl ⟨_, _, rfl, run_takeDeferred hK, ?_⟩⟩
    have hf := hh.grown (grownBy_putObj' U D (.deferred none)) (fun r e => by cases e; exact ⟨by omega, _, hK, rfl⟩)
    rw [hys] at hf
    exact ⟨_, results_none rfl _ _ _, ⟨_, rfl⟩, hf.blk, by rw [← HS0.out]; exact hf.but⟩
  case stop =>
    rintro D c pre W _ _ h _
    exact h.elim
/-- so many blows at a place -/
theorem hit_calls (b w h i : Nat) (n : Int) (dv : Value) (now bl : List Int) (hs : sized w h) (hi : i < w * h) (W : World) (hb : Blk W b w h dv now bl) (ht : tame now 1000000000) (hu : tame bl 1000000000) (hn0 : 0 ≤ n) (hn : n ≤ 1000000000) :
    Calls Try.prog 53 #[.pointer (some ⟨b, 0, none⟩), .int .i64 i, .int .i64 n] W fun e W' => (∃ v, e = .returned v) ∧ Blk W' b w h dv (hitL w h now i n) (addAt bl i n) ∧ But W.heap.size b W W' :=
  (callsIn_wide (n := 6)).1 (hit_in _ 6 trivial trivial trivial rfl (Nat.le_refl _) b w h i n dv now bl hs hi W hb ht hu hn0 hn)
end Go.Proofs.Ytbjmfhlkmklmmaa
