import Derived.Test.YtbjmfhlkmklmmaaKRef
import Derived.Laws.Rows
import Derived.Test.YtbjmfhlkmklmmaaKIter
import Derived.Deep.OwnRows
import Derived.Test.YtbjmfhlkmklmmaaKApi
/-  How many flat plates come back: the two reckonings, as functions. -/
namespace Go.Proofs.Ytbjmfhlkmklmmaa
open Go.RowKit

def w64 (x : Int) : Int := wrap64 x
/-- the definitions' table, by rows -/
def rget (M : List (List Int)) (i j : Nat) : Int := nth (row M i) j
def rset (M : List (List Int)) (i j : Nat) (v : Int) : List (List Int) := M.set i ((row M i).set j v)
def updR (k : Nat) (last : Int) (i j : Nat) (M : List (List Int)) : Int := w64 ((w64 (w64 (rget M i j * rget M k k) - w64 (rget M i k * rget M k j))).tdiv last)
def jR (k : Nat) (last : Int) (i : Nat) : Nat → Nat → List (List Int) → List (List Int)
  | 0, _, M => M
  | c + 1, j, M => jR k last i c (j + 1) (rset M i j (updR k last i j M))
def iR (n k : Nat) (last : Int) : Nat → Nat → List (List Int) → List (List Int)
  | 0, _, M => M
  | c + 1, i, M => iR n k last c (i + 1) (jR k last i (n - (k + 1)) (k + 1) M)
def kR (n : Nat) : Nat → Nat → Int → List (List Int) → Option (List (List Int))
  | 0, _, _, M => some M
  | c + 1, k, last, M => if last = 0 then none else kR n c (k + 1) (rget (iR n k last (n - (k + 1)) (k + 1) M) k k) (iR n k last (n - (k + 1)) (k + 1) M)
def rowI (w h i : Nat) : List Nat → List Int := fun l => l.foldl (fun r x => r.set x (-1)) ((List.replicate (w * h) 0).set i 4)
def initR (w h : Nat) : List (List Int) := (List.range (w * h)).map fun i => rowI w h i (nb w h i)
def cntR (w h : Nat) : Option Int := (kR (w * h) (w * h - 1) 0 1 (initR w h)).map fun M => rget M (w * h - 1) (w * h - 1)
/-- the program's table, in one row -/
def prm : Int := 2147483647
def powF : Nat → Int → Int → Int → Int
  | 0, _, _, out => out
  | f + 1, n, e, out => if 0 < e then powF f ((w64 (n * n)).tmod prm) (e / 2) (if (e % 2 == 1) = true then (w64 (out * n)).tmod prm else out) else out
def pget (M : List Int) (i j : Nat) : Int := nth M (i * 36 + j)
def pset (M : List Int) (i j : Nat) (v : Int) : List Int := M.set (i * 36 + j) v
def jP (k i : Nat) (times : Int) : Nat → Nat → List Int → List Int
  | 0, _, M => M
  | c + 1, j, M => jP k i times c (j + 1) (pset M i j ((w64 (pget M i j + w64 (times * pget M k j))).tmod prm))
def iP (n k : Nat) (part : Int) : Nat → Nat → List Int → List Int
  | 0, _, M => M
  | c + 1, i, M => iP n k part c (i + 1) (jP k i (w64 (prm - (w64 (pget M i k * part)).tmod prm)) (n - k) k M)
def kP (n : Nat) : Nat → Nat → Int → List Int → Int
  | 0, _, all, _ => all
  | c + 1, k, all, M => kP n c (k + 1) ((w64 (all * pget M k k)).tmod prm) (iP n k (powF 31 (pget M k k) 2147483645 1) (n - (k + 1)) (k + 1) M)
def rowP (i : Nat) (M : List Int) (l : List Nat) : List Int := l.foldl (fun M x => pset M i x 2147483646) (pset M i i 4)
def initP (w h : Nat) (k : Nat) : List Int := (List.range k).foldl (fun M i => rowP i M (nb w h i)) (List.replicate (w * h * 36) 0)
def cntP (w h : Nat) : Int := kP (w * h) (w * h) 0 1 (initP w h (w * h))
def cntT (w h : Nat) : Int := (cntR w h).getD 0
end Go.Proofs.Ytbjmfhlkmklmmaa

/-  A block of cells as a list; a table by rows, each in a block of its own. -/
namespace Go.Proofs.Ytbjmfhlkmklmmaa
open Go.RowKit Go.Shelf

def Lin (U : World) (g : Nat) (T : TypeId) (cs : List Value) : Prop := U.heap[g]? = some (.cells cs.toArray T (0, 0))
section
variable {U : World} {g : Nat} {T : TypeId} {cs : List Value}
theorem Lin.lt (h : Lin U g T cs) : g < U.heap.size := (Array.getElem?_eq_some_iff.1 h).1
theorem Lin.cell (h : Lin U g T cs) {k : Nat} {v : Value} (hk : cs[k]? = some v) : U.cell? ⟨g, k, none⟩ = some v := by
  simp only [World.cell?, show U.heap[g]? = _ from h]
  simpa using hk
theorem Lin.frozen (h : Lin U g T cs) (k : Nat) : U.frozen? ⟨g, k, none⟩ = false := by simp [World.frozen?, show U.heap[g]? = _ from h]
theorem Lin.kept (h : Lin U g T cs) {U' : World} {row : Option Nat} (hg : U.grownBy U' row) (hne : some g ≠ row) : Lin U' g T cs := (hg.block g h.lt hne).trans h
theorem Lin.later (h : Lin U g T cs) (x : Later U) : Lin x.w g T cs := h.kept x.grown (by simp)
theorem Lin.set (h : Lin U g T cs) (k : Nat) (v : Value) : Lin (U.setCell ⟨g, k, none⟩ v) g T (cs.set k v) := by
  show _ = _
  rw [heap_setCell_same _ _ _ _ _ _ h]
  simp
theorem Lin.other (h : Lin U g T cs) {b k : Nat} (hb : g ≠ b) (v : Value) : Lin (U.setCell ⟨b, k, none⟩ v) g T cs := h.kept (grownBy_setCell_at U b k v) (by simp; omega)
theorem Lin.made (w : World) (z : Value) (n : Nat) (T : TypeId) : Lin (w.alloc (.cells (madeCells #[z] n) T)) w.heap.size T (List.replicate n z) := by
  show _ = _
  rw [World.alloc_heap_new, show madeCells #[z] n = (List.replicate n z).toArray from by apply Array.toList_inj.1; rw [toList_madeCells_one]]
end
def ints (l : List Int) : List Value := l.map (.int .i64)
theorem ints_at {l : List Int} {k : Nat} (hk : k < l.length) : (ints l)[k]? = some (.int .i64 (nth l k)) := by simp [ints, hk, nth_eq hk]
theorem ints_set (l : List Int) (k : Nat) (v : Int) : (ints l).set k (.int .i64 v) = ints (l.set k v) := by simp [ints, List.map_set]
theorem ints_rep (n : Nat) (c : Int) : List.replicate n (Value.int .i64 c) = ints (List.replicate n c) := by simp [ints]

def hdr (n k : Nat) (r : Nat → Nat) : List Value := (List.range n).map fun i => if i < k then .slice (some ⟨r i, 0, none⟩) n n else .slice none 0 0
theorem hdr_at {n k : Nat} {r : Nat → Nat} {i : Nat} (hi : i < k) (hk : k ≤ n) : (hdr n k r)[i]? = some (.slice (some ⟨r i, 0, none⟩) n n) := by
  simp [hdr, show i < n by omega, hi]
theorem hdr_zero (n : Nat) (r : Nat → Nat) : hdr n 0 r = List.replicate n (.slice none 0 0) := by
  apply List.ext_getElem (by simp [hdr])
  intro i h1 h2
  simp [hdr]
theorem hdr_set {n k : Nat} (r : Nat → Nat) (ρ : Nat) : (hdr n k r).set k (.slice (some ⟨ρ, 0, none⟩) n n) = hdr n (k + 1) (fun j => if j = k then ρ else r j) := by
  apply List.ext_getElem (by simp [hdr])
  intro i h1 h2
  rw [List.getElem_set]
  by_cases e : k = i
  · subst e; simp [hdr]
  · rw [if_neg e]
    have e' : ¬ i = k := fun h => e h.symm
    simp only [hdr, List.getElem_map, List.getElem_range, e', if_false]
    by_cases h : i < k
    · rw [if_pos h, if_pos (by omega)]
    · rw [if_neg h, if_neg (by omega)]
/-- the first k rows of a table of n rows, in blocks of their own -/
structure MatR (U : World) (lo g n k : Nat) (r : Nat → Nat) (M : List (List Int)) : Prop where
  head : Lin U g 22 (hdr n k r)
  rows : ∀ i, i < k → Lin U (r i) 2 (ints (row M i))
  lens : ∀ i, i < k → (row M i).length = n
  ne : ∀ i, i < k → r i ≠ g
  inj : ∀ i j, i < k → j < k → r i = r j → i = j
  log : lo ≤ g
  lor : ∀ i, i < k → lo ≤ r i
  hk : k ≤ n
  mlen : M.length = k
section
variable {U : World} {lo g n k : Nat} {r : Nat → Nat} {M : List (List Int)}
theorem MatR.later (h : MatR U lo g n k r M) (x : Later U) : MatR x.w lo g n k r M := { h with head := h.head.later x, rows := fun i hi => (h.rows i hi).later x }
theorem MatR.other (h : MatR U lo g n k r M) {b j : Nat} (hb : g ≠ b) (hr : ∀ i, i < k → r i ≠ b) (v : Value) : MatR (U.setCell ⟨b, j, none⟩ v) lo g n k r M :=
  { h with head := h.head.other hb v, rows := fun i hi => (h.rows i hi).other (hr i hi) v }
theorem row_rset {M : List (List Int)} {i : Nat} (hi : i < M.length) (j : Nat) (v : Int) (i' : Nat) : row (rset M i j v) i' = if i' = i then (row M i).set j v else row M i' := by
  by_cases e : i' = i
  · subst e; simp [row, rset, hi]
  · have e2 : ¬ i = i' := fun h => e h.symm
    rw [if_neg e]; simp [row, rset, List.getElem?_set, e2]
theorem MatR.cellH (h : MatR U lo g n k r M) {i : Nat} (hi : i < k) : U.cell? ⟨g, i, none⟩ = some (.slice (some ⟨r i, 0, none⟩) n n) := h.head.cell (hdr_at hi h.hk)
theorem MatR.cell (h : MatR U lo g n k r M) {i j : Nat} (hi : i < k) (hj : j < n) : U.cell? ⟨r i, j, none⟩ = some (.int .i64 (rget M i j)) := (h.rows i hi).cell (ints_at (by rw [h.lens i hi]; exact hj))
theorem MatR.set (h : MatR U lo g n k r M) {i : Nat} (hi : i < k) (j : Nat) (v : Int) : MatR (U.setCell ⟨r i, j, none⟩ (.int .i64 v)) lo g n k r (rset M i j v) := by
  have hM : i < M.length := by rw [h.mlen]; exact hi
  refine { h with head := h.head.other (h.ne i hi).symm _, rows := fun i' hi' => ?_, lens := fun i' hi' => ?_, mlen := by rw [rset, List.length_set, h.mlen] }
  · rw [row_rset hM]
    by_cases e : i' = i
    · subst e; rw [if_pos rfl, ← ints_set]; exact (h.rows i' hi').set j _
    · rw [if_neg e]; exact (h.rows i' hi').other (fun h9 => e (h.inj _ _ hi' hi h9)) _
  · rw [row_rset hM]
    by_cases e : i' = i
    · subst e; rw [if_pos rfl, List.length_set]; exact h.lens i' hi'
    · rw [if_neg e]; exact h.lens i' hi'
theorem MatR.push (h : MatR U lo g n k r M) (hkn : k < n) {ρ : Nat} {L : List Int} (hL : Lin U ρ 2 (ints L)) (hl : L.length = n) (hne : ρ ≠ g) (hρ : ∀ i, i < k → r i ≠ ρ) (hlo : lo ≤ ρ) :
    MatR (U.setCell ⟨g, k, none⟩ (.slice (some ⟨ρ, 0, none⟩) n n)) lo g n (k + 1) (fun j => if j = k then ρ else r j) (M ++ [L]) := by
  have hrow : ∀ i, row (M ++ [L]) i = if i = k then L else row M i := fun i => by
    by_cases e : i = k
    · subst e; rw [if_pos rfl]; simp [row, ← h.mlen]
    · rw [if_neg e]
      by_cases h2 : i < k
      · simp [row, List.getElem?_append_left (show i < M.length by rw [h.mlen]; exact h2)]
      · simp [row, List.getElem?_eq_none (show (M ++ [L]).length ≤ i by rw [List.length_append, h.mlen, List.length_singleton]; omega), List.getElem?_eq_none (show M.length ≤ i by rw [h.mlen]; omega)]
  refine ⟨by rw [← hdr_set r]; exact h.head.set k _, fun i hi => ?_, fun i hi => ?_, fun i hi => ?_, fun i j hi hj e => ?_, h.log, fun i hi => ?_, hkn, by rw [List.length_append, h.mlen]; rfl⟩
  · rw [hrow]
    by_cases e : i = k
    · subst e; simp only [if_true]; exact hL.other hne _
    · simp only [e, if_false]; exact (h.rows i (by omega)).other (h.ne i (by omega)) _
  · rw [hrow]
    by_cases e : i = k
    · rw [if_pos e]; exact hl
    · rw [if_neg e]; exact h.lens i (by omega)
  · by_cases e : i = k
    · simp only [e, if_true]; exact hne
    · simp only [e, if_false]; exact h.ne i (by omega)
  · by_cases e1 : i = k
    · by_cases e2 : j = k
      · omega
      · simp only [e1, e2, if_true, if_false] at e; exact absurd e.symm (hρ j (by omega))
    · by_cases e2 : j = k
      · simp only [e1, e2, if_true, if_false] at e; exact absurd e (hρ i (by omega))
      · simp only [e1, e2, if_false] at e; exact h.inj i j (by omega) (by omega) e
  · by_cases e : i = k
    · simp only [e, if_true]; exact hlo
    · simp only [e, if_false]; exact h.lor i (by omega)
end
end Go.Proofs.Ytbjmfhlkmklmmaa

/-  Count of the definitions. -/
namespace Go.Proofs.Ytbjmfhlkmklmmaa
open Go.RowKit

theorem rowI_snoc (w h i : Nat) (l : List Nat) (x : Nat) : rowI w h i (l ++ [x]) = (rowI w h i l).set x (-1) := by rw [rowI, List.foldl_append]; rfl
theorem rowI_len (w h i : Nat) (l : List Nat) : (rowI w h i l).length = w * h := by
  have hf : ∀ (l : List Nat) (r : List Int), (l.foldl (fun r x => r.set x (-1)) r).length = r.length := fun l => by
    induction l with
    | nil => intro r; rfl
    | cons x l ih => intro r; rw [List.foldl_cons, ih, List.length_set]
  rw [rowI, hf]; simp
theorem initR_snoc (w h k : Nat) : ((List.range (k + 1)).map fun i => rowI w h i (nb w h i)) = ((List.range k).map fun i => rowI w h i (nb w h i)) ++ [rowI w h k (nb w h k)] := by
  rw [List.range_succ, List.map_append]; rfl
set_option maxRecDepth 100000 in
set_option maxHeartbeats 8000000 in
theorem refCount_calls (w h : Nat) (V : Int) (hs : sized w h) (hsz : sizeB w h 4 = true) (hV : cntR w h = some V) (W : World) :
    Calls Try.prog 41 #[.int .i64 w, .int .i64 h] W (Gives (.tuple #[.int .i64 V, .int .i64 0]) W) := by
  have h36 : w * h ≤ 36 := Nat.mul_le_mul hs.2.1 hs.2.2.2
  have h1w : 1 ≤ w * h := Nat.mul_le_mul hs.1 hs.2.2.1
  obtain ⟨N, hN⟩ : ∃ N, w * h = N := ⟨_, rfl⟩
  have HN := Lib.hid hN
  rw [hN] at h36 h1w
  have emul : IntKind.i64.wrap ((w : Int) * (h : Int)) = (N : Int) := by
    rw [show (w : Int) * (h : Int) = ((w * h : Nat) : Int) from (Int.natCast_mul _ _).symm, hN]; exact IntWalk.i64_in _ (by omega)
  have hmk : ∀ (w' : World), (Instr.makeSlice 89 (.int .i64 (N : Int)) (.int .i64 (N : Int))).run Try.prog w' = .ok (.slice (some ⟨w'.heap.size, 0, none⟩) N N) (w'.alloc (.cells (madeCells #[.slice none 0 0] N) 22)) :=
    fun w' => run_make_row' _ _ _ 24 Try.underlying89 (by kernel_rfl) rfl _ _ _ (by omega) (by omega) w'
  have hmk2 : ∀ (w' : World), (Instr.makeSlice 22 (.int .i64 (N : Int)) (.int .i64 (N : Int))).run Try.prog w' = .ok (.slice (some ⟨w'.heap.size, 0, none⟩) N N) (w'.alloc (.cells (madeCells #[.int .i64 0] N) 2)) :=
    fun w' => run_make_row' _ _ _ 8 Try.underlying22 (by kernel_rfl) rfl _ _ _ (by omega) (by omega) w'
  clear hN
  go_enter Try.func41, Try.ntmps41
  go_wp2_with fail
  refine (IsSize_calls w h 4 W).mono ?_
  rintro e w' ⟨rfl, hw⟩
  rw [hw, hsz]
  clear hw w'
  go_wp2
  obtain ⟨g, hg⟩ : ∃ g, g = W.heap.size := ⟨_, rfl⟩
  have hM0 : MatR (W.alloc (.cells (madeCells #[.slice none 0 0] N) 22)) W.heap.size g N 0 (fun _ => 0) [] :=
    ⟨by rw [hdr_zero, hg]; exact Lin.made _ _ _ _, fun i hi => absurd hi (Nat.not_lt_zero _), fun i hi => absurd hi (Nat.not_lt_zero _), fun i hi => absurd hi (Nat.not_lt_zero _), fun i j hi => absurd hi (Nat.not_lt_zero _), by omega, fun i hi => absurd hi (Nat.not_lt_zero _), Nat.zero_le _, rfl⟩
  obtain ⟨Z, hZ⟩ : ∃ Z : Later W, Z.w = W.alloc (.cells (madeCells #[.slice none 0 0] N) 22) := ⟨Later.new _ _, rfl⟩
  rw [← hZ] at hM0 ⊢
  rw [← hg]
  clear hZ hg hmk
  go_loopw [8] (fun i wr => ∃ (k : Nat) (r : Nat → Nat) (x : Later W), wr = x.w ∧ k ≤ N ∧ i = .int .i64 k ∧ MatR x.w W.heap.size g N k r ((List.range k).map fun i => rowI w h i (nb w h i))) (fun i _ => N - (intOf i).toNat)
  case atStart => exact ⟨0, _, Z, rfl, Nat.zero_le _, rfl, hM0⟩
  case round =>
    obtain ⟨k, r, x, rfl, hk, rfl, hM⟩ := hrel
    clear hM0
    by_cases hlt : k < N
    · have hkN : k < w * h := by rw [HN.out]; exact hlt
      have hL0 : Lin (x.w.alloc (.cells (madeCells #[.int .i64 0] N) 2)) x.w.heap.size 2 (ints (List.replicate N 0)) := by rw [← ints_rep]; exact Lin.made _ _ _ _
      have c1 := hL0.cell (ints_at (l := List.replicate N 0) (k := k) (by rw [List.length_replicate]; exact hlt))
      have f1 := hL0.frozen k
      clear hL0
      obtain ⟨ρ, hρ⟩ : ∃ ρ, ρ = x.w.heap.size := ⟨_, rfl⟩
      have hLk : Lin (x.w.alloc (.cells ((madeCells #[.int .i64 0] N).setIfInBounds k (.int .i64 4)) 2)) ρ 2 (ints ((List.replicate N 0).set k 4)) := by
        show _ = _
        rw [hρ, World.alloc_heap_new, ← ints_set, ← ints_rep, show madeCells #[Value.int .i64 0] N = (List.replicate N (Value.int .i64 0)).toArray from by apply Array.toList_inj.1; rw [toList_madeCells_one], List.setIfInBounds_toArray]
      have hg1 := hM.head.lt
      have hrl : ∀ i, i < k → r i ≠ ρ := fun i hi e => by have := (hM.rows i hi).lt; omega
      have hρg : ρ ≠ g := by omega
      have hWρ : W.heap.size ≤ ρ := by rw [hρ]; exact x.size
      have hM1 := hM.later (Later.new x.w (.cells ((madeCells #[.int .i64 0] N).setIfInBounds k (.int .i64 4)) 2))
      rw [Later.new_w] at hM1
      have HSZ := Lib.hid (show (x.w.alloc (.cells ((madeCells #[.int .i64 0] N).setIfInBounds k (.int .i64 4)) 2)).heap.size = ρ + 1 by rw [hρ]; simp)
      have HLK := Lib.hid hLk
      have HM1 := Lib.hid hM1
      have HB1 := Lib.hid (show Below W.heap.size W (x.w.alloc (.cells ((madeCells #[.int .i64 0] N).setIfInBounds k (.int .i64 4)) 2)) from (x.step (Later.new _ _)).le)
      have HR := Lib.hid hρ
      clear hρ hLk hM1 hM
      go_wp2_with fail
      rw [← HR.out]
      clear c1 f1
      refine (Beside_calls w h k hs hkN _).mono ?_
      rintro e w' ⟨lv, y, rfl, rfl, hB⟩
      rw [HSZ.out] at hB
      obtain ⟨al, nl, cl, rfl⟩ := hB.form'
      have hlb : (nbI w h k).length = (nb w h k).length := by simp [nbI]
      obtain ⟨al', cl', eL⟩ : ∃ a c, Value.slice al nl cl = .slice a (nb w h k).length c := by obtain ⟨a, c, e⟩ := hB.form; rw [hlb] at e; exact ⟨a, _, e⟩
      cases eL
      have hlen4 := nb_len w h k
      have hnb := Lib.hid (nb_all hs hkN)
      have hne : (Value.slice al (nb w h k).length cl).ownBlock ≠ some ρ := fun e => by have := (World.ownsRow.lt hB ρ e).1; omega
      replace hB := hB.mono (lo' := W.heap.size) (by omega)
      obtain ⟨Y, hY⟩ : ∃ Y : Later W, Y.w = y.w := ⟨⟨y.w, HB1.out.trans (y.le.mono HB1.out.size)⟩, rfl⟩
      have hM2 := HM1.out.later y
      have hL2 : Lin y.w ρ 2 (ints (rowI w h k [])) := by
        have h9 := HLK.out.later y
        rw [show (List.replicate N (0 : Int)).set k 4 = rowI w h k [] from by rw [rowI, HN.out]; rfl] at h9
        exact h9
      rw [← hY] at hB hM2 hL2 ⊢
      clear hY HM1 HLK HB1 y
      go_wp2
      go_loopw [11] (fun j wr => ∃ (m : Nat) (V : Later W), wr = V.w ∧ m ≤ (nb w h k).length ∧ j = .int .i64 m ∧ MatR V.w W.heap.size g N k r ((List.range k).map fun i => rowI w h i (nb w h i)) ∧ Lin V.w ρ 2 (ints (rowI w h k ((nb w h k).take m))) ∧ IntsM W.heap.size V.w (.slice al (nb w h k).length cl) (nbI w h k)) (fun j _ => (nb w h k).length - (intOf j).toNat)
      case atStart => exact ⟨0, Y, rfl, Nat.zero_le _, rfl, hM2, hL2, hB⟩
      case round =>
        obtain ⟨m, V, rfl, hm, rfl, hMv, hLv, hBv⟩ := hrel
        clear hM2 hL2 hB
        by_cases hml : m < (nb w h k).length
        · obtain ⟨bl, ol, cl', e, hcl, hbl, hgl⟩ := (hBv.ints (by omega)).at (k := m) (by omega)
          rw [hlb] at e
          cases e
          have gl := hgl m (by omega)
          rw [nth_nbI w h k hml] at gl
          obtain ⟨J, hJ⟩ : ∃ J, (nb w h k)[m] = J := ⟨_, rfl⟩
          have hJl : J < w * h := by rw [← hJ]; exact hnb.out.2.1 _ (List.getElem_mem hml)
          have hJN : J < N := by rw [← HN.out]; exact hJl
          rw [hJ] at gl
          have hLs := hLv.set J (.int .i64 (-1))
          rw [ints_set, ← rowI_snoc, ← hJ, ← List.take_succ_eq_append_getElem hml, hJ] at hLs
          have HLS := Lib.hid hLs
          have HMS := Lib.hid (hMv.other (b := ρ) (j := J) (Ne.symm hρg) hrl (.int .i64 (-1)))
          have HBS := Lib.hid (hBv.kept (grownBy_setCell_at V.w ρ J (.int .i64 (-1))) (.inr hne))
          have HBW := Lib.hid (V.le.setCell (p := ⟨ρ, J, none⟩) hWρ (.int .i64 (-1)))
          have gJ := hLv.cell (ints_at (l := rowI w h k ((nb w h k).take m)) (k := J) (by rw [rowI_len]; exact hJl))
          have fJ := hLv.frozen J
          have lJ := hLv.lt
          clear hLs hLv hMv hBv hgl hJ hJl hcl
          go_wp2
          go_roundw
          case rel => exact ⟨m + 1, ⟨_, HBW.out⟩, rfl, by omega, by go_num, HMS.out, HLS.out, HBS.out⟩
          case measure => simp [intOf]; omega
        · obtain rfl : m = (nb w h k).length := by omega
          rw [List.take_length] at hLv
          have c2 := hMv.head.cell (k := k) (v := .slice none 0 0) (by simp [hdr, hlt])
          have f2 := hMv.head.frozen k
          have l2 := hMv.head.lt
          have HMP := Lib.hid (hMv.push hlt hLv (by rw [rowI_len, HN.out]) hρg hrl hWρ)
          have HBW := Lib.hid (V.le.setCell (p := ⟨g, k, none⟩) hMv.log (.slice (some ⟨ρ, 0, none⟩) N N))
          rw [← initR_snoc] at HMP
          clear hLv hMv hBv
          go_wp2
          go_roundw
          case rel => exact ⟨k + 1, _, ⟨_, HBW.out⟩, rfl, by omega, by go_num, HMP.out⟩
          case measure => simp [intOf]; omega
    · obtain rfl : k = N := by omega
      obtain ⟨MF, hMF, hVF⟩ : ∃ MF, kR k (k - 1) 0 1 (initR w h) = some MF ∧ rget MF (k - 1) (k - 1) = V := by
        rw [cntR, HN.out] at hV
        obtain ⟨MF, h1, h2⟩ := Option.map_eq_some_iff.1 hV
        exact ⟨MF, h1, h2⟩
      have hMi : MatR x.w W.heap.size g k k r (initR w h) := by rw [initR, HN.out]; exact hM
      have HVF := Lib.hid hVF
      have HMF := Lib.hid hMF
      clear hM hV hVF hMF hmk2 emul
      go_wp2
      go_loopw [13, 12] (fun c l wr => ∃ (q : Nat) (last : Int) (M : List (List Int)) (y : Later W), wr = y.w ∧ q ≤ k - 1 ∧ c = .int .i64 q ∧ l = .int .i64 last ∧ MatR y.w W.heap.size g k k r M ∧ Hid (kR k (k - 1 - q) q last M = some MF)) (fun c _ _ => k - (intOf c).toNat)
      case atStart => exact ⟨0, 1, _, x, rfl, Nat.zero_le _, rfl, rfl, hMi, HMF.out⟩
      case round =>
        obtain ⟨q, last, M, y, rfl, hq, rfl, rfl, hM, hR⟩ := hrel
        clear hMi HMF
        have hqk : q < k := by omega
        by_cases hlt2 : q + 1 < k
        · obtain ⟨c, hc⟩ : ∃ c, k - 1 - q = c + 1 := ⟨k - 1 - q - 1, by omega⟩
          have hl0 : last ≠ 0 := fun e => by
            have h9 := hR.out
            rw [hc, kR, if_pos e] at h9
            cases h9
          have hR2 := Lib.hid (show kR k c (q + 1) (rget (iR k q last (k - (q + 1)) (q + 1) M) q q) (iR k q last (k - (q + 1)) (q + 1) M) = some MF by have h9 := hR.out; rw [hc, kR, if_neg hl0] at h9; exact h9)
          have hc2 : c = k - 1 - (q + 1) := by omega
          rw [hc2] at hR2
          obtain ⟨MT, hMT⟩ : ∃ MT, iR k q last (k - (q + 1)) (q + 1) M = MT := ⟨_, rfl⟩
          rw [hMT] at hR2
          have HMT := Lib.hid hMT
          clear hMT hc hc2 c hR
          go_wp2
          go_loopw [14] (fun c wr => ∃ (i : Nat) (M : List (List Int)) (y : Later W), wr = y.w ∧ i ≤ k ∧ q + 1 ≤ i ∧ c = .int .i64 i ∧ MatR y.w W.heap.size g k k r M ∧ Hid (iR k q last (k - i) i M = MT)) (fun c _ => k - (intOf c).toNat)
          case atStart => exact ⟨q + 1, M, y, rfl, by omega, Nat.le_refl _, by go_num, hM, HMT.out⟩
          case round =>
            obtain ⟨i, M2, y2, rfl, hi, hqi, rfl, hM2, hR20⟩ := hrel
            clear hM HMT
            by_cases hlt3 : i < k
            · have hR3 := Lib.hid (show iR k q last (k - (i + 1)) (i + 1) (jR q last i (k - (q + 1)) (q + 1) M2) = MT by have h9 := hR20.out; rw [show k - i = (k - (i + 1)) + 1 by omega, iR] at h9; exact h9)
              obtain ⟨MJ, hMJ⟩ : ∃ MJ, jR q last i (k - (q + 1)) (q + 1) M2 = MJ := ⟨_, rfl⟩
              rw [hMJ] at hR3
              have HMJ := Lib.hid hMJ
              clear hMJ hR20
              go_wp2
              go_loopw [15] (fun c wr => ∃ (j : Nat) (M2 : List (List Int)) (y2 : Later W), wr = y2.w ∧ j ≤ k ∧ q + 1 ≤ j ∧ c = .int .i64 j ∧ MatR y2.w W.heap.size g k k r M2 ∧ Hid (jR q last i (k - j) j M2 = MJ)) (fun c _ => k - (intOf c).toNat)
              case atStart => exact ⟨q + 1, M2, y2, rfl, by omega, Nat.le_refl _, by go_num, hM2, HMJ.out⟩
              case round =>
                obtain ⟨j, M3, y3, rfl, hj, hqj, rfl, hM3, hR30⟩ := hrel
                clear hM2 HMJ
                by_cases hlt4 : j < k
                · have hR4 := Lib.hid (show jR q last i (k - (j + 1)) (j + 1) (rset M3 i j (updR q last i j M3)) = MJ by have h9 := hR30.out; rw [show k - j = (k - (j + 1)) + 1 by omega, jR] at h9; exact h9)
                  have c1 := hM3.cellH hlt3
                  have c2 := hM3.cellH hqk
                  have c3 := hM3.cell hlt3 hlt4
                  have c4 := hM3.cell hqk hqk
                  have c5 := hM3.cell hlt3 hqk
                  have c6 := hM3.cell hqk hlt4
                  have l1 := hM3.head.lt
                  have l2 := (hM3.rows i hlt3).lt
                  have l3 := (hM3.rows q hqk).lt
                  clear hR30
                  have HM := Lib.hid hM3
                  clear hM3
                  go_wp2
                  refine Mix.region_mixL (Mix.kinds [] [] [39]) (by kernel_rfl) (by kernel_rfl) ?_
                  repeat ((with_reducible refine Mix.atCons ?_); first | refine Mix.skipU (by rfl) rfl (by rfl) ?_ | (refine Mix.val rfl rfl (by rfl) (fun K hK => ?_); go_big_quiet_op; refine hK _ ?_; clear hK K))
                  obtain ⟨v, hv⟩ : ∃ v, wrap64 ((wrap64 (wrap64 (rget M3 i j * rget M3 q q) - wrap64 (rget M3 i q * rget M3 q j))).tdiv last) = v := ⟨_, rfl⟩
                  have hv2 : updR q last i j M3 = v := hv
                  rw [hv]
                  rw [hv2] at hR4
                  clear hv hv2 c1 c2 c3 c4 c5 c6 l1 l2 l3
                  refine Mix.last rfl (by rfl) (fun x1 K hK => ?_)
                  have hMx := HM.out.later x1
                  have d1 := hMx.cell hlt3 hlt4
                  have d2 := (hMx.rows i hlt3).frozen j
                  have d3 := (hMx.rows i hlt3).lt
                  have HST := Lib.hid (hMx.set hlt3 j v)
                  have HB3 := Lib.hid ((y3.step x1).le.setCell (p := ⟨r i, j, none⟩) (hMx.lor i hlt3) (.int .i64 v))
                  simp only [Later.step_w] at HB3
                  clear hMx HM
                  go_wp2_with fail
                  refine Mix.done (fun x2 => ?_)
                  clear d1 d2 d3
                  go_wp2
                  go_roundw
                  case rel => exact ⟨j + 1, _, ⟨x2.w, HB3.out.trans (x2.le.mono HB3.out.size)⟩, rfl, by omega, by omega, by go_num, HST.out.later x2, hR4.out⟩
                  case measure => simp [intOf]; omega
                · obtain rfl : j = k := by omega
                  have hMM : M3 = MJ := by have h9 := hR30.out; rw [Nat.sub_self, jR] at h9; exact h9
                  clear hR30
                  go_wp2
                  go_roundw
                  case rel => exact ⟨i + 1, MJ, y3, rfl, by omega, by omega, by go_num, by rw [← hMM]; exact hM3, hR3.out⟩
                  case measure => simp [intOf]; omega
            · obtain rfl : i = k := by omega
              have hMM : M2 = MT := by have h9 := hR20.out; rw [Nat.sub_self, iR] at h9; exact h9
              rw [hMM] at hM2
              have c1 := hM2.cellH hqk
              have c2 := hM2.cell hqk hqk
              have l1 := hM2.head.lt
              have l2 := (hM2.rows q hqk).lt
              have HM := Lib.hid hM2
              clear hR20 hMM hM2
              go_wp2
              go_roundw
              case rel => exact ⟨q + 1, _, MT, y2, rfl, by omega, by go_num, rfl, HM.out, hR2.out⟩
              case measure => simp [intOf]; omega
        · obtain rfl : q = k - 1 := by omega
          have hMM : M = MF := by have h9 := hR.out; rw [Nat.sub_self, kR] at h9; exact Option.some.inj h9
          rw [hMM] at hM
          have c1 := hM.cellH hqk
          have c2 := hM.cell hqk hqk
          have l1 := hM.head.lt
          have l2 := (hM.rows (k - 1) hqk).lt
          have ek : IntKind.i64.wrap ((k : Int) - 1) = ((k - 1 : Nat) : Int) := by rw [IntWalk.i64_in _ (by omega)]; omega
          clear hR hMM hM
          have hlt5 : ¬ ((k - 1 : Nat) : Int) + 1 < (k : Int) := by omega
          obtain ⟨p, hp⟩ : ∃ p, k - 1 = p := ⟨_, rfl⟩
          rw [hp] at c1 c2 ek hlt2 HVF hqk l2 hlt5 ⊢
          have hp0 : p + 1 = k := by omega
          clear hp
          subst hp0
          go_wp2
          go_ret2
          exact ⟨ret_ie HVF.out rfl, y, rfl⟩

end Go.Proofs.Ytbjmfhlkmklmmaa
