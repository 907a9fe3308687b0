import Derived.Test.YtbjmfhlkmklmmaaKIter
import Derived.Maps.RangeWalk
import Derived.Maps.OwnSet
import Derived.DeepKeys4
import Derived.Deep.MidRow
import Derived.Deep.WholeRow
import Derived.Test.YtbjmfhlkmklmmaaKRef
import Derived.Deep.LoopGhost
import Derived.Maps.OwnOps
import Derived.Lib.SliceRun
/-  The map from places to numbers: what it reads as, and how it is ranged over. Plain law over the program's table of types. -/
namespace Go.Proofs.Ytbjmfhlkmklmmaa
open Go.RowKit Go.Maps
open Go.WideElems (rg rd_key rg_of)

def spotV (p : Nat) : Value := .agg #[.int .i64 (p : Int)]
@[irreducible] noncomputable def spotL (p : Nat) : Lit := (keyOf Try.prog 97 (spotV p)).getD (.bool false)
set_option maxRecDepth 1000000 in
theorem spot_chk : ((List.range 36).all fun p => (keyOf Try.prog 97 (spotV p)).isSome) = true := by decide +kernel
theorem spot_key {p : Nat} (hp : p < 36) : keyOf Try.prog 97 (spotV p) = some (spotL p) := by
  have h := (List.all_eq_true.1 spot_chk) p (List.mem_range.2 hp)
  unfold spotL
  generalize keyOf Try.prog 97 (spotV p) = x at h ⊢
  cases x with
  | none => cases h
  | some l => rfl
theorem spot_law : Keyed Try.prog 97 := Keyed.of_law (deep_law_laid (m := 3) (by kernel_rfl) (by omega) (of_decide_eq_true (by kernel_rfl)) (by kernel_rfl) (by kernel_rfl))
theorem spot_inj {p q : Nat} (hp : p < 36) (hq : q < 36) (h : spotL p = spotL q) : p = q := by
  have h1 := spot_law.inj (spot_key hp) (h ▸ spot_key hq)
  simp only [spotV, Value.agg.injEq, Array.mk.injEq, List.cons.injEq, Value.int.injEq, and_true, true_and] at h1
  omega
theorem spot_isKey {p : Nat} (hp : p < 36) : WideAt.IsKeyLit (spotL p) := spot_law.key (spot_key hp)
theorem spot_same {p q : Nat} (hp : p < 36) (hq : q < 36) : (spotL p).sameKey (spotL q) = decide (p = q) := by
  by_cases e : p = q
  · subst e; rw [WideAt.sameKey_self (spot_isKey hp)]; simp
  · rw [sameKey_ne (fun h => e (spot_inj hp hq h))]; simp [e]

abbrev DU := DataW Unit
def litN (c : Int) : DU := .lit (.int .i64 c)
/-- the map reads as g -/
structure SpotMap (N : Nat) (g : Nat → Option Int) (D : DU) : Prop where
  has : ∀ p, p < N → Maps.has D (spotL p) = (g p).isSome
  at' : ∀ p c, p < N → g p = some c → ∀ zd, D.atKey (spotL p) zd = litN c
  only : ∀ kl, Maps.has D kl = true → ∃ p, p < N ∧ kl = spotL p
theorem SpotMap.nil (N : Nat) : SpotMap N (fun _ => none) (.map [] : DU) := ⟨fun _ _ => rfl, fun _ _ _ h => (nomatch h), fun _ h => by cases h⟩
theorem SpotMap.put {N : Nat} {g : Nat → Option Int} {D : DU} (h : SpotMap N g D) (hN : N ≤ 36) (hD : IsMap D) {p : Nat} (hp : p < N) (c : Int) : SpotMap N (fun q => if q = p then some c else g q) (D.put (spotL p) (litN c)) := by
  refine ⟨fun q hq => ?_, fun q c' hq hc zd => ?_, fun kl hk => ?_⟩
  · by_cases e : q = p
    · subst e; rw [has_put_same hD (spot_isKey (by omega))]; simp
    · rw [has_put_other (fun e2 => e (spot_inj (by omega) (by omega) e2)), h.has q hq, if_neg e]
  · by_cases e : q = p
    · subst e; rw [atKey_put_same hD (spot_isKey (by omega))]; simp at hc; rw [hc]
    · rw [atKey_put_other (fun e2 => e (spot_inj (by omega) (by omega) e2))]
      exact h.at' q c' hq (by simpa [e] using hc) zd
  · by_cases e : kl = spotL p
    · exact ⟨p, hp, e⟩
    · rw [has_put_other e] at hk; exact h.only kl hk
theorem SpotMap.del {N : Nat} {g : Nat → Option Int} {D : DU} (h : SpotMap N g D) (hN : N ≤ 36) {p : Nat} (hp : p < N) : SpotMap N (fun q => if q = p then none else g q) (D.del (spotL p)) := by
  refine ⟨fun q hq => ?_, fun q c' hq hc zd => ?_, fun kl hk => ?_⟩
  · by_cases e : q = p
    · subst e; rw [has_del_same]; simp
    · rw [has_del_other (fun e2 => e (spot_inj (by omega) (by omega) e2)), h.has q hq, if_neg e]
  · by_cases e : q = p
    · subst e; simp at hc
    · rw [atKey_del_other (fun e2 => e (spot_inj (by omega) (by omega) e2))]
      exact h.at' q c' hq (by simpa [e] using hc) zd
  · by_cases e : kl = spotL p
    · exact ⟨p, hp, e⟩
    · rw [has_del_other e] at hk; exact h.only kl hk
theorem SpotMap.congr {N : Nat} {g g' : Nat → Option Int} {D : DU} (h : SpotMap N g D) (he : ∀ p, p < N → g p = g' p) : SpotMap N g' D :=
  ⟨fun p hp => by rw [h.has p hp, he p hp], fun p c hp hc => h.at' p c hp (by rw [he p hp]; exact hc), h.only⟩
noncomputable abbrev RN : Value → Option (DU × List MemPlace) := plainElem Try.prog 2
theorem ranges_has {w : World} {b r n : Nat} {D : DU} {left : Lit → Bool} {cnt : Nat} (h : w.ranges Try.prog 97 RN b r n D left cnt) {kl : Lit} (hl : left kl = true) : Maps.has D kl = true := by
  obtain ⟨es, clock, since, seen, c0, hb, F, hs, rfl, hr, hold, rfl, hl1, hl2, hsc, hsk⟩ := h
  obtain ⟨x, hx, rfl⟩ := hl2 kl hl
  obtain ⟨y, hy⟩ := F.reads x hx
  exact List.any_eq_true.2 ⟨rg Try.prog _ RN x, mem_sorted.2 (List.mem_map.2 ⟨x, hx, rfl⟩), WideAt.sameKey_self (by rw [rg_of hy]; exact spot_law.key (rd_key hy))⟩
/-- the step of a range over such a map -/
theorem wpList_next_spot {w : World} {ops : Array Oper} {rest : List Oper} {o : Oper} {a : Act} {Q : Exit → Act → World → Prop} (hg : o.guard = none) (it : Operand) (hop : o.op = Op.next it false) {N : Nat} {g : Nat → Option Int}
    (b r n : Nat) (D : DU) (left : Lit → Bool) (cnt : Nat) (hit : a.eval it = .pointer (some ⟨r, 0, none⟩)) (h : w.ranges Try.prog 97 RN b r n D left cnt) (hM : SpotMap N g D) (hN : N ≤ 36)
    (hDone : cnt = 0 → (∀ kl, left kl = false) → wpList Try.prog ops Q rest (a.put o.dst (.tuple #[.bool false])) w)
    (hMore : ∀ (p : Nat) (c : Int) (w' : World) (cnt' : Nat), p < N → left (spotL p) = true → g p = some c → w'.ranges Try.prog 97 RN b r n D (fun z => left z && !z.sameKey (spotL p)) cnt' → cnt' < cnt →
      w.grownBy w' (some r) → w'.heap.size = w.heap.size → (Instr.entry (.pointer (some ⟨r, 0, none⟩))).run Try.prog w' = .ok (.tuple #[.agg #[.int .i64 (p : Int)], .int .i64 c]) w' → wpList Try.prog ops Q rest (a.put o.dst (.tuple #[.bool true, .agg #[.int .i64 (p : Int)], .int .i64 c])) w') :
    wpList Try.prog ops Q (o :: rest) a w := by
  refine wpList_plain hg fun K' hK' => ?_
  unfold Oper.wp
  rcases h.next spot_law o.type with ⟨h0, hl, hrun⟩ | ⟨key, v, kl, y, w', cnt', hkey, hlk, hv, hat, hrun, hrg, hlt, hgr, hsz, hen⟩
  · simp [execOp, hop, hit, hrun, Result.andThen]
    exact hK' _ _ (hDone h0 hl)
  · obtain ⟨p, hp, rfl⟩ := hM.only kl (ranges_has h hlk)
    obtain rfl := spot_law.inj hkey (spot_key (by omega : p < 36))
    obtain ⟨c, rfl, rfl, hwc⟩ := plainElem_int_inv Try.underlying2 hv
    have hgp : g p = some c := by
      have h1 := ranges_has h hlk
      rw [hM.has p hp] at h1
      obtain ⟨c', hc'⟩ := Option.isSome_iff_exists.1 h1
      have h2 := hM.at' p c' hp hc' (litN 0)
      rw [hat] at h2
      simp [litN] at h2
      rw [hc', h2]
    simp [execOp, hop, hit, hrun, Result.andThen]
    exact hK' _ _ (hMore p c w' cnt' hp hlk hgp hrg hlt hgr hsz hen)
end Go.Proofs.Ytbjmfhlkmklmmaa

/-  Arrays of 36 numbers: loads and comparison; the numbers of the places, padded. -/
namespace Go.Proofs.Ytbjmfhlkmklmmaa
open Go.RowKit

/-- an array's cells -/
def aggA (xs : List Int) : Array Value := (xs.map (Value.int .i64)).toArray
theorem run_part_agg (xs : List Int) {i : Nat} (hi : i < xs.length) (w : World) : (part 2 (aggA xs) (i * 1)).run Try.prog w = .ok (.int .i64 (nth xs i)) w := by
  refine run_part_plain w (by kernel_rfl) ?_
  simp [aggA, hi, nth]
theorem eqItems_ints (xs ys : List Int) (d : Nat) (w : World) : ∀ is : List Nat, (∀ i ∈ is, i < xs.length ∧ i < ys.length) →
    (Op.eqItems (d + 1) 2 1 (aggA xs) (aggA ys) is).run Try.prog w = .ok (is.all fun i => nth xs i == nth ys i) w
  | [], _ => by simp [Op.eqItems]
  | i :: is, h => by
    have hi := h i (by simp)
    have ih := eqItems_ints xs ys d w is fun j hj => h j (by simp [hj])
    rw [Op.eqItems, Sem.run_bind, run_part_agg xs hi.1, Result.andThen_ok, Sem.run_bind, run_part_agg ys hi.2, Result.andThen_ok, Sem.run_bind, run_equalIn_int w d 2 .i64 .i64 _ _ Try.underlying2, Result.andThen_ok, List.all_cons]
    cases nth xs i == nth ys i
    · simp
    · simp [ih]
theorem run_eq_dents (xs ys : List Int) (h1 : xs.length = 36) (h2 : ys.length = 36) (w : World) : (Op.equal 75 (.agg (aggA xs)) (.agg (aggA ys))).run Try.prog w = .ok (decide (xs = ys)) w := by
  have hi : ∃ i, Try.prog.info? 2 = some i := Option.isSome_iff_exists.1 (by kernel_rfl)
  obtain ⟨i, hi⟩ := hi
  have hfin : ((List.range 36).all fun i => nth xs i == nth ys i) = decide (xs = ys) := by
    rw [Bool.eq_iff_iff, List.all_eq_true, decide_eq_true_iff]
    constructor
    · intro h
      refine List.ext_getElem (by rw [h1, h2]) fun j hj hj' => ?_
      have := h j (List.mem_range.2 (by omega))
      rw [beq_iff_eq, nth_eq hj, nth_eq hj'] at this
      exact this
    · rintro rfl j _; simp
  have hc : Try.prog.cellsOf 2 = 1 := by kernel_rfl
  show (Op.equalIn (9999 + 1) 75 _ _).run Try.prog w = _
  rw [run_equalIn_array w 9999 _ _ Try.underlying75 hi, hc, eqItems_ints xs ys 9998 w _ fun i hi => by rw [List.mem_range] at hi; omega]
  rw [hfin]
theorem Blk.loadN {W : World} {b : Nat} {w h : Int} {dv : Value} {now bl : List Int} (hb : Blk W b w h dv now bl) : (Instr.loadAt 75 (.pointer (some ⟨b, 3, none⟩))).run Try.prog W = .ok (.agg (aggA now)) W :=
  run_loadAt_mid W b 3 75 (now.map (Value.int .i64)) _ (fun j v hj => by
    rw [List.getElem?_map] at hj
    obtain ⟨y, hy, rfl⟩ := Option.map_eq_some_iff.1 hj
    have hjl := (List.getElem?_eq_some_iff.1 hy).1
    have := hb.cellN (k := j) (by rw [← hb.len1]; exact hjl)
    rw [nth_eq hjl, (List.getElem?_eq_some_iff.1 hy).2] at this
    exact this) Try.underlying75 rfl (by rw [List.length_map, hb.len1]; kernel_rfl)
theorem Blk.loadB {W : World} {b : Nat} {w h : Int} {dv : Value} {now bl : List Int} (hb : Blk W b w h dv now bl) : (Instr.loadAt 75 (.pointer (some ⟨b, 39, none⟩))).run Try.prog W = .ok (.agg (aggA bl)) W :=
  run_loadAt_mid W b 39 75 (bl.map (Value.int .i64)) _ (fun j v hj => by
    rw [List.getElem?_map] at hj
    obtain ⟨y, hy, rfl⟩ := Option.map_eq_some_iff.1 hj
    have hjl := (List.getElem?_eq_some_iff.1 hy).1
    have := hb.cellB (k := j) (by rw [← hb.len2]; exact hjl)
    rw [nth_eq hjl, (List.getElem?_eq_some_iff.1 hy).2] at this
    exact this) Try.underlying75 rfl (by rw [List.length_map, hb.len2]; kernel_rfl)

theorem Blk.rangeN {W : World} {b : Nat} {w h : Int} {dv : Value} {now bl : List Int} (hb : Blk W b w h dv now bl) : W.rangeAt b 3 (now.map (Value.int .i64)) := fun j v hj => by
  rw [List.getElem?_map] at hj
  obtain ⟨y, hy, rfl⟩ := Option.map_eq_some_iff.1 hj
  have hjl := (List.getElem?_eq_some_iff.1 hy).1
  have := hb.cellN (k := j) (by rw [← hb.len1]; exact hjl)
  rw [nth_eq hjl, (List.getElem?_eq_some_iff.1 hy).2] at this
  exact this
theorem Blk.rangeB {W : World} {b : Nat} {w h : Int} {dv : Value} {now bl : List Int} (hb : Blk W b w h dv now bl) : W.rangeAt b 39 (bl.map (Value.int .i64)) := fun j v hj => by
  rw [List.getElem?_map] at hj
  obtain ⟨y, hy, rfl⟩ := Option.map_eq_some_iff.1 hj
  have hjl := (List.getElem?_eq_some_iff.1 hy).1
  have := hb.cellB (k := j) (by rw [← hb.len2]; exact hjl)
  rw [nth_eq hjl, (List.getElem?_eq_some_iff.1 hy).2] at this
  exact this
/-- a block that holds an array -/
def Arr (W : World) (c : Nat) (xs : List Int) : Prop := W.heap[c]? = some (.cells (aggA xs) 75 (0, 0))
theorem Arr.range {W : World} {c : Nat} {xs : List Int} (h : Arr W c xs) : W.rangeAt c 0 (xs.map (Value.int .i64)) := fun j v hj => by
  rw [Nat.zero_add]
  simpa [World.cell?, show W.heap[c]? = _ from h, aggA] using hj
theorem Arr.kept {W W' : World} {c : Nat} {xs : List Int} {row : Option Nat} (h : Arr W c xs) (hg : W.grownBy W' row) (hne : some c ≠ row) : Arr W' c xs := (hg.block c (Array.getElem?_eq_some_iff.1 h).1 hne).trans h
theorem Arr.lt {W : World} {c : Nat} {xs : List Int} (h : Arr W c xs) : c < W.heap.size := (Array.getElem?_eq_some_iff.1 h).1
section
variable {ops : Array Oper} {rest : List Oper} {op : Oper} {a : Act} {Q : Exit → Act → World → Prop}
theorem dents_size {xs : List Int} (h : xs.length = 36) : (Try.prog.info? 75).map (·.size) = some (xs.map (Value.int .i64)).length := by rw [List.length_map, h]; kernel_rfl
theorem wpList_load_dents {w : World} (hgd : op.guard = none) (x : Operand) (ho : op.op = .load 75 x) (b o : Nat) (hx : a.eval x = .pointer (some ⟨b, o, none⟩)) (xs : List Int) (hl : xs.length = 36) (hc : w.rangeAt b o (xs.map (Value.int .i64)))
    (h : wpList Try.prog ops Q rest (a.put op.dst (.agg (aggA xs))) w) : wpList Try.prog ops Q (op :: rest) a w :=
  wpList_load_mid hgd _ x ho b o hx _ _ hc Try.underlying75 rfl (dents_size hl) h
theorem wpList_store_dents {w : World} (hgd : op.guard = none) (x y : Operand) (ho : op.op = .store 75 x y) {c : Array Value} (hx : a.eval x = .pointer (some ⟨w.heap.size, 0, none⟩)) (xs : List Int) (hy : a.eval y = .agg (aggA xs)) (hl : xs.length = 36) (hsz : c.size = 36)
    (h : ∀ w' : World, Arr w' w.heap.size xs → (∃ x : Later w, x.w = w') → wpList Try.prog ops Q rest (a.put op.dst undef) w') : wpList Try.prog ops Q (op :: rest) a (w.alloc (.cells c 75)) :=
  wpList_plain hgd fun _ hK => by
    unfold Oper.wp execOp
    simp only [ho, hx, hy, Sem.run_bind]
    rw [run_storeAt_new w _ c (aggA xs) (by simp only [aggA, List.size_toArray]; exact dents_size hl) (by simp [aggA, hl, hsz]) (by
      rw [Array.all_eq_true_iff_forall_mem]
      intro v hv
      simp only [aggA, List.mem_toArray, List.mem_map] at hv
      obtain ⟨y, _, rfl⟩ := hv
      rfl)]
    simp only [Result.andThen_ok, Sem.run_pure]
    exact hK _ _ (h _ (World.alloc_heap_new w _) ⟨Later.new _ _, rfl⟩)
theorem quiet_load_dents {C : World → Prop} {K : Act → Prop} (x : Operand) (ho : op.op = .load 75 x) (b o : Nat) (hx : a.eval x = .pointer (some ⟨b, o, none⟩)) (xs : List Int) (hl : xs.length = 36) (hc : ∀ w, C w → w.rangeAt b o (xs.map (Value.int .i64)))
    (h : K (a.put op.dst (.agg (aggA xs)))) : op.quiet Try.prog a C K :=
  ⟨_, fun w hw => by
    unfold Oper.quietAt execOp
    simp only [ho, hx, Instr.loadAt, Instr.sureAddr, Sem.run_bind, Sem.run_pure, Result.andThen_ok, run_loadVar_mid w b o _ _ _ (hc w hw) Try.underlying75 rfl (dents_size hl)]
    exact ⟨rfl, rfl⟩, h⟩
theorem quiet_eq_dents {C : World → Prop} {K : Act → Prop} (x y : Operand) (t' : TypeId) (ho : op.op = .binOp .eql 75 x y t') (xs ys : List Int) (hx : a.eval x = .agg (aggA xs)) (hy : a.eval y = .agg (aggA ys)) (hl : xs.length = 36) (hl' : ys.length = 36)
    (h : K (a.put op.dst (.bool (decide (xs = ys))))) : op.quiet Try.prog a C K :=
  ⟨_, fun w _ => by
    have hg : (eqGuard .eql 75 x y (.agg (aggA xs)) (.agg (aggA ys))).run Try.prog w = .ok () w := by
      have he : Try.prog.eqGuardType Try.prog.depth 75 = false := by kernel_rfl
      simp [eqGuard, he]
    unfold Oper.quietAt execOp
    simp only [ho, hx, hy, Sem.run_bind, hg, Result.andThen_ok]
    rw [show binOp .eql 75 (.agg (aggA xs)) (.agg (aggA ys)) = (do pure (.bool (← Op.equal 75 (.agg (aggA xs)) (.agg (aggA ys))))) from rfl]
    simp only [Sem.run_bind, run_eq_dents xs ys hl hl', Result.andThen_ok, Sem.run_pure]
    exact ⟨rfl, rfl⟩, h⟩
end

/-- 36 numbers by a function -/
def pad (f : Nat → Int) : List Int := (List.range 36).map f
theorem pad_len (f : Nat → Int) : (pad f).length = 36 := by simp [pad]
theorem ofL_pad (f : Nat → Int) {j : Nat} (hj : j < 36) : ofL (pad f) j = f j := by simp [ofL, pad, hj]
theorem pad_congr {f g : Nat → Int} (h : ∀ j, j < 36 → f j = g j) : pad f = pad g := List.map_congr_left fun j hj => h j (List.mem_range.1 hj)
theorem pad_inj {f g : Nat → Int} (h : pad f = pad g) {j : Nat} (hj : j < 36) : f j = g j := by rw [← ofL_pad f hj, h, ofL_pad g hj]
theorem addAt_pad (f : Nat → Int) {i : Nat} (hi : i < 36) (n : Int) : addAt (pad f) i n = pad fun j => f j + if j = i then n else 0 :=
  ofL_ext (by rw [addAt_len, pad_len, pad_len]) fun j hj => by
    rw [addAt_len, pad_len] at hj
    rw [ofL_addAt _ _ _ _ (by rw [pad_len]; exact hi), ofL_pad _ hj, ofL_pad _ hj]
theorem addAt_padL (B : Nat → Int) (d : List Int) (hd : d.length ≤ 36) {i : Nat} (hi : i < d.length) (n : Int) : addAt (pad fun j => B j + ofL d j) i n = pad fun j => B j + ofL (addAt d i n) j := by
  rw [addAt_pad _ (by omega)]
  refine pad_congr fun j _ => ?_
  rw [ofL_addAt _ _ _ _ hi]
  omega
theorem addAt_padL0 (d : List Int) (hd : d.length ≤ 36) {i : Nat} (hi : i < d.length) (n : Int) : addAt (pad (ofL d)) i n = pad (ofL (addAt d i n)) := by
  rw [addAt_pad _ (by omega)]
  refine pad_congr fun j _ => ?_
  rw [ofL_addAt _ _ _ _ hi]
theorem addAll_padL (n : Int) : ∀ (l : List Nat) (d : List Int), d.length ≤ 36 → (∀ x ∈ l, x < d.length) → addAll n l (pad (ofL d)) = pad (ofL (addAll n l d))
  | [], _, _, _ => rfl
  | x :: l, d, hd, h => by
    have := addAll_padL n l (addAt d x n) (by rw [addAt_len]; exact hd) fun y hy => by rw [addAt_len]; exact h y (by simp [hy])
    show addAll n l (addAt (pad (ofL d)) x n) = pad (ofL (addAll n l (addAt d x n)))
    rw [addAt_padL0 d hd (h x (by simp)), this]
theorem hitL_pad {w h : Nat} (hs : sized w h) {d : List Int} (hd : d.length = w * h) {i : Nat} (hi : i < w * h) (n : Int) : hitL w h (pad (ofL d)) i n = pad (ofL (hitL w h d i n)) := by
  have h36 : w * h ≤ 36 := Nat.mul_le_mul hs.2.1 hs.2.2.2
  rw [hitL, hitL, addAt_padL0 d (by omega) (by omega), addAll_padL _ _ _ (by rw [addAt_len]; omega) fun x hx => by rw [addAt_len, hd]; exact (nb_all hs hi).2.1 x hx]
theorem tame_pad {f : Nat → Int} {B : Int} (h : ∀ j, j < 36 → -B ≤ f j ∧ f j ≤ B) : tame (pad f) B := fun j hj => by
  rw [pad_len] at hj; rw [ofL_pad _ hj]; exact h j hj
end Go.Proofs.Ytbjmfhlkmklmmaa

/-  What a round of hammering does: plain law. -/
namespace Go.Proofs.Ytbjmfhlkmklmmaa

/-- more blows leave other dents -/
theorem RunL.still {w h : Nat} (hs : sized w h) {d u u' x : List Int} (h1 : RunL w h d u x) (h2 : RunL w h d u' x) (hle : ∀ j, j < w * h → ofL u j ≤ ofL u' j) : Sand.sum (w * h) (ofL u') ≤ Sand.sum (w * h) (ofL u) := by
  have hδ : ∀ j, j < w * h → 4 * (ofL u' j - ofL u j) = Sand.sum (w * h) fun i => (if near w i j then (1 : Int) else 0) * (ofL u' i - ofL u i) := fun j hj => by
    have a := h1.is j hj
    have b := h2.is j hj
    rw [Sand.ap] at a b
    have e : Sand.sum (w * h) (fun i => (if near w i j then (1 : Int) else 0) * (ofL u' i - ofL u i)) = Sand.sum (w * h) (fun i => (if near w i j then (1 : Int) else 0) * ofL u' i) - Sand.sum (w * h) (fun i => (if near w i j then (1 : Int) else 0) * ofL u i) := by
      rw [Int.sub_eq_add_neg, ← Sand.sum_neg, ← Sand.sum_add]
      exact Sand.sum_congr _ fun i _ => by rw [Int.mul_sub, Int.sub_eq_add_neg]
    rw [e]
    have c1 : Sand.sum (pl w h).N (fun i => (pl w h).a i j * ofL u i) = Sand.sum (w * h) (fun i => (if near w i j then (1 : Int) else 0) * ofL u i) := rfl
    have c2 : Sand.sum (pl w h).N (fun i => (pl w h).a i j * ofL u' i) = Sand.sum (w * h) (fun i => (if near w i j then (1 : Int) else 0) * ofL u' i) := rfl
    rw [c1] at a
    rw [c2] at b
    omega
  obtain ⟨δ, hδd⟩ : ∃ δ : Nat → Int, δ = fun i => ofL u' i - ofL u i := ⟨_, rfl⟩
  have hpos : ∀ j, j < w * h → 0 ≤ δ j := fun j hj => by rw [hδd]; have := hle j hj; show 0 ≤ ofL u' j - ofL u j; omega
  have hd2 : ∀ j, j < w * h → 4 * δ j = Sand.sum (w * h) fun i => (if near w i j then (1 : Int) else 0) * δ i := fun j hj => by rw [hδd]; exact hδ j hj
  -- the sum of 'hill times 4 δ', in two ways
  have e1 : Sand.sum (w * h) (fun j => hill w j * (4 * δ j)) = Sand.sum (w * h) fun i => δ i * Sand.sum (w * h) fun j => (if near w j i then (1 : Int) else 0) * hill w j := by
    rw [Sand.sum_congr (g := fun j => Sand.sum (w * h) fun i => hill w j * ((if near w i j then (1 : Int) else 0) * δ i)) (w * h) fun j hj => by rw [hd2 j hj, Sand.sum_mul], Sand.sum_swap]
    refine Sand.sum_congr _ fun i _ => ?_
    rw [← Sand.sum_mul]
    refine Sand.sum_congr _ fun j _ => ?_
    rw [near_comm w i j]
    by_cases hn : near w j i = true
    · rw [if_pos hn]; rw [Int.one_mul, Int.one_mul, Int.mul_comm]
    · rw [if_neg hn]; rw [Int.zero_mul, Int.zero_mul, Int.mul_zero, Int.mul_zero]
  have e2 : Sand.sum (w * h) (fun i => δ i * Sand.sum (w * h) fun j => (if near w j i then (1 : Int) else 0) * hill w j) ≤ Sand.sum (w * h) fun i => hill w i * (4 * δ i) + -(2 * δ i) :=
    Sand.sum_mono _ fun i hi => by
      have h3 := (hill_all hs hi).1
      have h4 := Int.mul_le_mul_of_nonneg_left h3 (hpos i hi)
      rw [Int.mul_add] at h4
      have h5 : δ i * (4 * hill w i) = hill w i * (4 * δ i) := by rw [Int.mul_comm, Int.mul_assoc, ← Int.mul_assoc, Int.mul_comm 4 (hill w i), Int.mul_assoc]
      omega
  rw [Sand.sum_add, Sand.sum_neg, Sand.sum_mul] at e2
  have e3 : Sand.sum (w * h) δ = Sand.sum (w * h) (ofL u') - Sand.sum (w * h) (ofL u) := by
    rw [Int.sub_eq_add_neg, ← Sand.sum_neg, ← Sand.sum_add, hδd]
    exact Sand.sum_congr _ fun i _ => Int.sub_eq_add_neg
  omega
/-- a part of the places that are not flat has been hit -/
structure Swept (w h : Nat) (d U X U' X' : List Int) (L : Nat → Bool) : Prop where
  run : RunL w h d U X
  run' : RunL w h d U' X'
  more : ∀ j, j < w * h → ofL U j ≤ ofL U' j
  high : ∀ j, j < w * h → L j = true → ofL X j ≤ ofL X' j
  done : ∀ j, j < w * h → 0 < ofL X j / 4 → L j = true ∨ Sand.sum (w * h) (ofL U) < Sand.sum (w * h) (ofL U')
  same : X' = X ∨ Sand.sum (w * h) (ofL U) < Sand.sum (w * h) (ofL U')
theorem Swept.start {w h : Nat} {d U X : List Int} (hr : RunL w h d U X) {L : Nat → Bool} (hL : ∀ j, j < w * h → 0 < ofL X j / 4 → L j = true) : Swept w h d U X U X L :=
  ⟨hr, hr, fun _ _ => Int.le_refl _, fun _ _ _ => Int.le_refl _, fun j hj h0 => .inl (hL j hj h0), .inl rfl⟩
theorem Swept.hit {w h : Nat} (hs : sized w h) {d U X U' X' : List Int} {L L' : Nat → Bool} (hw : Swept w h d U X U' X' L) {p : Nat} (hp : p < w * h) (hLp : L p = true) (h0 : 0 < ofL X p / 4) (hL : ∀ j, j < w * h → L' j = true → L j = true ∧ j ≠ p) :
    Swept w h d U X (addAt U' p (ofL X p / 4)) (hitL w h X' p (ofL X p / 4)) L' := by
  have hU := hw.run'.2.1
  have hX := hw.run'.2.2.1
  have hh := hw.high p hp hLp
  have hsum : Sand.sum (w * h) (ofL (addAt U' p (ofL X p / 4))) = Sand.sum (w * h) (ofL U') + ofL X p / 4 := sum_addAt hp hU _
  have hle := Sand.sum_mono (f := ofL U) (g := ofL U') (w * h) hw.more
  refine ⟨hw.run, hw.run'.blow hs hp (by omega) (by omega), fun j hj => ?_, fun j hj hj' => ?_, fun j hj _ => .inr (by omega), .inr (by omega)⟩
  · rw [ofL_addAt _ _ _ _ (by omega)]
    have := hw.more j hj
    split <;> omega
  · obtain ⟨h1, h2⟩ := hL j hj hj'
    rw [ofL_hitL hs (by omega) hp _ j hj, Sand.hit, if_neg h2]
    have h3 := hw.high j hj h1
    have h4 : 0 ≤ (pl w h).a p j * (ofL X p / 4) := Int.mul_nonneg ((pl w h).nn p j) (by omega)
    omega
theorem Swept.end_same {w h : Nat} (hs : sized w h) {d U X U' : List Int} {L : Nat → Bool} (hw : Swept w h d U X U' X L) (hL : ∀ j, j < w * h → L j = false) : Ham w h d X U' :=
  ⟨hw.run', fun j hj => by
    have h1 := hw.run.still hs hw.run' hw.more
    rcases Int.lt_or_le (0 : Int) (ofL X j / 4) with h0 | h0
    · rcases hw.done j hj h0 with h2 | h2
      · rw [hL j hj] at h2; cases h2
      · omega
    · show ofL X j ≤ 3
      omega⟩
theorem Swept.end_more {w h : Nat} {d U X U' X' : List Int} {L : Nat → Bool} (hw : Swept w h d U X U' X' L) (hne : X' ≠ X) : Sand.sum (w * h) (ofL U) < Sand.sum (w * h) (ofL U') := hw.same.resolve_left hne
end Go.Proofs.Ytbjmfhlkmklmmaa

/-  The program's flatten. -/
namespace Go.Proofs.Ytbjmfhlkmklmmaa
open Go.RowKit Go.Maps

abbrev SPT : TypeId := 97
/-- what stands between two rounds -/
structure FlatW (W U : World) (n0 b w h : Nat) (dv : Value) (now bl : List Int) : Prop where
  blk : Blk U b w h dv now bl
  but : But n0 b W U
  lt : b < n0
  sz : n0 ≤ U.heap.size
section
variable {W U : World} {n0 b w h : Nat} {dv : Value} {now bl : List Int}
theorem FlatW.grown (hh : FlatW W U n0 b w h dv now bl) {U' : World} {row : Option Nat} (hg : U.grownBy U' row) (hr : ∀ r, row = some r → n0 ≤ r) : FlatW W U' n0 b w h dv now bl :=
  ⟨hh.blk.kept hg (fun e => by have := hr b e.symm; have := hh.lt; omega), ⟨hg.os.trans hh.but.os, hg.tape.trans hh.but.tape, hg.output.trans hh.but.output, Nat.le_trans hh.but.size hg.size, fun k hk hkb => by
    have hU : U.heap[k]? = W.heap[k]? := hh.but.block k hk hkb
    exact (hg.block k (by have := hh.sz; omega) (fun e => by have := hr k e.symm; omega)).trans hU⟩, hh.lt, Nat.le_trans hh.sz hg.size⟩
theorem FlatW.later (hh : FlatW W U n0 b w h dv now bl) (x : Later U) : FlatW W x.w n0 b w h dv now bl := hh.grown x.grown (fun _ h => nomatch h)
end
theorem But.grown {b : Nat} {U U' : World} (h : But U.heap.size b U U') : U.grownBy U' (some b) := ⟨h.os, h.tape, h.output, h.size, fun k hk hne => h.block k hk (fun e => hne (by rw [e]))⟩
theorem FlatW.hit {W U U' : World} {n0 b w h : Nat} {dv : Value} {now bl now' bl' : List Int} (hh : FlatW W U n0 b w h dv now bl) (hb : Blk U' b w h dv now' bl') (hg : But U.heap.size b U U') : FlatW W U' n0 b w h dv now' bl' :=
  ⟨hb, hh.but.trans (hg.mono hh.sz), hh.lt, Nat.le_trans hh.sz hg.size⟩
theorem wrap_size {w h : Nat} (h36 : w * h ≤ 36) : IntKind.i64.wrap ((w : Int) * (h : Int)) = ((w * h : Nat) : Int) := by
  rw [← Int.natCast_mul]; exact IntWalk.i64_in _ (by omega)
/-- the map behind the first strike, and in the middle of it -/
noncomputable def gE (X : List Int) (left : Lit → Bool) (q : Nat) : Option Int := if 0 < ofL X q / 4 ∨ left (spotL q) = true then some (ofL X q / 4) else none
theorem gE_stay {X : List Int} {N p : Nat} (hN : N ≤ 36) (hp : p < N) {left : Lit → Bool} (hc : 0 < ofL X p / 4) {q : Nat} (hq : q < N) : gE X left q = gE X (fun z => left z && !z.sameKey (spotL p)) q := by
  unfold gE
  have hs := spot_same (p := q) (q := p) (by omega) (by omega)
  by_cases e : q = p
  · subst e; rw [if_pos (.inl hc), if_pos (.inl hc)]
  · simp only [hs]; simp [e]
theorem gE_gone {X : List Int} {N p : Nat} (hN : N ≤ 36) (hp : p < N) {left : Lit → Bool} (hc : ¬ 0 < ofL X p / 4) {q : Nat} (hq : q < N) : (if q = p then none else gE X left q) = gE X (fun z => left z && !z.sameKey (spotL p)) q := by
  unfold gE
  have hs := spot_same (p := q) (q := p) (by omega) (by omega)
  by_cases e : q = p
  · subst e; rw [if_pos rfl]; simp only [hs]; simp [hc]
  · rw [if_neg e]; simp only [hs]; simp [e]
set_option maxRecDepth 100000 in
set_option maxHeartbeats 4000000 in
theorem flatten_calls (b w h : Nat) (dv : Value) (d : List Int) (B : Nat → Int) (W : World) (hb : Blk W b w h dv (pad (ofL d)) (pad B)) (hs : sized w h) (hd : d.length = w * h) (hlow : low w h d) (hB : ∀ j, j < 36 → -1000000 ≤ B j ∧ B j ≤ 1000000) :
    Calls Try.prog 59 #[.pointer (some ⟨b, 0, none⟩)] W fun e W' => (∃ v, e = .returned v) ∧ ∃ X U, Ham w h d X U ∧ Blk W' b w h dv (pad (ofL X)) (pad fun j => B j + ofL U j) ∧ But W.heap.size b W W' := by
  have hmm := @run_makeMap Try.prog
  have h36 : w * h ≤ 36 := Nat.mul_le_mul hs.2.1 hs.2.2.2
  go_enter Try.func59, Try.ntmps59
  go_wp2
  obtain ⟨n0, hn0⟩ : ∃ n0, n0 = W.heap.size := ⟨_, rfl⟩
  have hF0 : FlatW W (W.alloc (.map #[] 0)) n0 b w h dv (pad (ofL d)) (pad fun j => B j + ofL (List.replicate (w * h) 0) j) := by
    refine ⟨?_, ?_, by rw [hn0]; exact hb.lt, by rw [hn0]; simp⟩
    · have := hb.later (Later.new W (.map #[] 0))
      rw [Later.new_w] at this
      rwa [show pad B = pad fun j => B j + ofL (List.replicate (w * h) 0) j from pad_congr fun j _ => by simp [ofL, List.getElem?_replicate]; split <;> simp] at this
    · rw [hn0]; exact But.below (Later.new W _).le
  have hM0 : (W.alloc (.map #[] 0)).ownsMap Try.prog SPT RN n0 0 (.map []) := by rw [hn0]; exact World.ownsMap_made _ _ _ _
  obtain ⟨N, hN⟩ : ∃ N, N = w * h := ⟨_, rfl⟩
  have HN := Lib.hid hN
  have HD := Lib.hid hd
  have HN0 := Lib.hid hn0
  rw [← hN] at h36
  rw [← hn0]
  clear hN hd hn0 hb hmm
  go_loopg [11] 13000 (fun gk _ wr => ∃ (X U : List Int) (D : DU) (g : Nat → Option Int) (n : Nat), FlatW W wr n0 b w h dv (pad (ofL X)) (pad fun j => B j + ofL U j) ∧ wr.ownsMap Try.prog SPT RN n0 n D ∧ SpotMap N g D ∧ Hid (RunL w h d U X ∧ (12600 - Sand.sum (w * h) (ofL U)) < gk ∧ n + 36 * gk ≤ 36 * 13000))
  case atStart =>
    refine ⟨d, _, _, _, _, hF0, hM0, SpotMap.nil N, ?_⟩
    refine ⟨RunL.start HD.out, ?_, by omega⟩
    have h1 := Sand.sum_nonneg (f := ofL (List.replicate (w * h) 0)) (w * h) fun i hi => by simp [ofL, hi]
    omega
  case round =>
    obtain ⟨X, U, D, g, n, hF, hM, hS, hI⟩ := hrel
    obtain ⟨A, hA⟩ : ∃ A, pad (ofL X) = A := ⟨_, rfl⟩
    have hrn := hF.blk.rangeN
    have hAl : A.length = 36 := by rw [← hA, pad_len]
    rw [hA] at hrn
    have HA := Lib.hid hA
    clear hA
    go_wp2_with (first
      | ((with_reducible show wpList _ _ _ (⟨some 14, _, _, _, _, _⟩ :: _) _ _); refine wpList_load_dents rfl _ rfl b 3 rfl A hAl hrn ?_)
      | (refine wpList_store_dents rfl _ _ rfl rfl A rfl hAl (by simp) ?_; rintro w1 hA1 ⟨x1, rfl⟩; go_frame))
    have hF1 := hF.later x1
    have hM1 := hM.kept x1.grown (by simp)
    obtain ⟨c, hc⟩ : ∃ c, c = wr.heap.size := ⟨_, rfl⟩
    rw [← hc] at hA1 ⊢
    have hcn : n0 < c := by rw [hc]; exact hM.lt
    have HC := Lib.hid hc
    obtain ⟨V, hV⟩ : ∃ V, V = x1.w := ⟨_, rfl⟩
    rw [← hV] at hF1 hM1 hA1 ⊢
    clear hV hc x1 hrn hF hM
    have c0 := hF1.blk.cellW
    have c1 := hF1.blk.cellH
    have lb := hF1.blk.lt
    have eN : IntKind.i64.wrap ((w : Int) * (h : Int)) = (N : Int) := by rw [HN.out]; exact wrap_size (by rw [← HN.out]; exact h36)
    refine region_later_lit (by kernel_rfl) (by kernel_rfl) ?_
    repeat (first | go_big_quiet_step (first
         | (fail)))
    refine wpQuiet_nil ?_
    intro y
    have hF2 := hF1.later y
    have hM2 := hM1.kept y.grown (by simp)
    have hA2 := hA1.kept y.grown (by simp)
    obtain ⟨V2, hV2⟩ : ∃ V2, V2 = y.w := ⟨_, rfl⟩
    rw [← hV2] at hF2 hM2 hA2 ⊢
    clear hV2 y c0 c1 lb eN hF1 hM1 hA1
    clear V
    go_wp2
    go_loopw [26] (fun i wr2 => ∃ (k : Nat) (D : DU) (g : Nat → Option Int), k ≤ N ∧ i = .int .i64 k ∧ FlatW W wr2 n0 b w h dv (pad (ofL X)) (pad fun j => B j + ofL U j) ∧ Arr wr2 c A ∧ wr2.ownsMap Try.prog SPT RN n0 (n + k) D ∧ SpotMap N g D ∧ Hid (∀ q, q < k → g q = some (ofL X q / 4))) (fun i _ => N - (intOf i).toNat)
    case atStart => exact ⟨0, D, g, Nat.zero_le _, rfl, hF2, hA2, hM2, hS, fun q hq => absurd hq (Nat.not_lt_zero _)⟩
    case round =>
      obtain ⟨k, D, g, hk, rfl, hF3, hA3, hM3, hS3, hg3⟩ := hrel
      clear hF2 hM2 hA2 hS
      by_cases hlt : k < N
      · obtain ⟨v, hv⟩ : ∃ v, ofL X k = v := ⟨_, rfl⟩
        have c1 := hF3.blk.cellN (k := k) (by omega)
        rw [nth_ofL, ofL_pad _ (by omega), hv] at c1
        have hlo := low_x hs hI.out.1 hlow k (by rw [← HN.out]; exact hlt)
        rw [hv] at hlo
        have e1 : wrap64 (v / 4) = v / 4 := IntWalk.wrap64_in _ (by omega)
        have hwf : (Lit.int .i64 (v / 4)).wf = true := WalkArith.wf_i64 (by omega)
        have hkN : (k : Int) < 36 := by omega
        go_wp2_with (first
          | (at_mapUpdate; refine wpList_mapUpdate_own _ rfl _ _ _ 95 rfl SPT 2 spot_law Try.underlying95 RN n0 _ D rfl hM3 (by have := hI.out.2.2; simp only [maxLen]; omega) _ _ (spotL k) rfl rfl (spot_key (by omega)) (litN (v / 4)) [] (plainElem_int Try.underlying2 hwf) ?_; intro w1 hown1 hgrow1; go_frame))
        go_roundw
        case rel => exact ⟨k + 1, _, _, by omega, by go_num, hF3.grown hgrow1 (fun r e => by cases e; exact Nat.le_refl _), hA3.kept hgrow1 (fun e => by cases e; omega), hown1, hS3.put h36 (hM3.tidy spot_law).isMap hlt (v / 4), fun q hq => by
          by_cases e : q = k
          · subst e; rw [if_pos rfl, hv]
          · rw [if_neg e]; exact hg3.out q (by omega)⟩
        case measure => simp [intOf]; omega
      · obtain rfl : k = N := by omega
        have hSE := hS3.congr (g' := gE X (Maps.has D)) (fun q hq => by rw [hg3.out q hq, gE, hS3.has q hq, hg3.out q hq]; simp)
        have lM := hM3.lt
        go_wp2_with (first
          | (at_range; refine wpList_range_own _ rfl _ 95 rfl SPT 2 spot_law Try.underlying95 RN n0 _ D rfl hM3 ?_; intro w0 hrg0 hg0 hs0))
        go_frame
        obtain ⟨r, hr⟩ : ∃ r, r = wr.heap.size := ⟨_, rfl⟩
        have hF4 := hF3.grown hg0 (fun _ h => nomatch h)
        have hA4 := hA3.kept hg0 (by simp)
        have hrn : n0 < r := by rw [hr]; exact lM
        have hrc : c < r := by rw [hr]; exact hA3.lt
        rw [← hr] at hrg0 ⊢
        clear hF3 hA3 hM3 hg3 hg0 hs0 lM hr hS3 hlt hk
        go_loopw [42] (fun _ wr3 => ∃ (D : DU) (left : Lit → Bool) (cnt : Nat), FlatW W wr3 n0 b w h dv (pad (ofL X)) (pad fun j => B j + ofL U j) ∧ Arr wr3 c A ∧ wr3.ranges Try.prog SPT RN n0 r (n + k) D left cnt ∧ SpotMap k (gE X left) D) (fun _ wr3 => wr3.rangeLeft n0 r)
        case atStart => exact ⟨D, _, _, hF4, hA4, hrg0, hSE⟩
        case round =>
          obtain ⟨D, left, cnt, hF5, hA5, hrg, hS5⟩ := hrel
          clear hF4 hA4 hrg0 hSE
          go_wp2_with (first
            | (at_next; refine wpList_next_spot rfl _ rfl n0 r (n + k) D left cnt rfl hrg hS5 h36 ?_ ?_))
          · intro _ hl0
            have hS6 := hS5.congr (g' := fun q => if 0 < ofL X q / 4 then some (ofL X q / 4) else none) (fun q hq => by rw [gE, hl0]; simp)
            have hM6 := hrg.owns
            clear hS5 hrg
            go_wp2_with (first
              | (at_range; refine wpList_range_own _ rfl _ 95 rfl SPT 2 spot_law Try.underlying95 RN n0 _ D rfl hM6 ?_; intro w0 hrg0 hg0 hs0))
            go_frame
            obtain ⟨r2, hr2⟩ : ∃ r2, r2 = wr.heap.size := ⟨_, rfl⟩
            have hF7 := hF5.grown hg0 (fun _ h => nomatch h)
            have hA7 := hA5.kept hg0 (by simp)
            have hrn2 : n0 < r2 := by rw [hr2]; exact hM6.lt
            have hrc2 : c < r2 := by rw [hr2]; exact hA5.lt
            rw [← hr2] at hrg0 ⊢
            have hSw := Lib.hid (Swept.start (L := fun j => Maps.has D (spotL j)) hI.out.1 (fun j hj h0 => by rw [hS6.has j (by rw [HN.out]; exact hj), if_pos h0]; rfl))
            clear hF5 hA5 hM6 hg0 hs0 hr2
            go_loopw [55] (fun _ wr4 => ∃ (left : Lit → Bool) (cnt : Nat) (U' X' : List Int), FlatW W wr4 n0 b w h dv (pad (ofL X')) (pad fun j => B j + ofL U' j) ∧ Arr wr4 c A ∧ wr4.ranges Try.prog SPT RN n0 r2 (n + k) D left cnt ∧ Hid (Swept w h d U X U' X' fun j => left (spotL j))) (fun _ wr4 => wr4.rangeLeft n0 r2)
            case atStart => exact ⟨_, _, U, X, hF7, hA7, hrg0, hSw.out⟩
            case round =>
              obtain ⟨left, cnt, U', X', hF8, hA8, hrg, hW⟩ := hrel
              clear hF7 hA7 hrg0 hSw
              have hXl := hW.out.run'.2.2.1
              have hUl := hW.out.run'.2.1
              rw [← HN.out] at hXl hUl
              go_wp2_with (first
                | (at_next; refine wpList_next_spot rfl _ rfl n0 r2 (n + k) D left cnt rfl hrg hS6 h36 ?_ ?_))
              · intro _ hl0
                have hM9 := hrg.owns
                have hL : ∀ j, j < w * h → (fun j => left (spotL j)) j = false := fun j _ => hl0 _
                have hlb := hF8.blk.lt
                have HA9 := Lib.hid hA8
                go_wp2
                refine region_later_lit (by kernel_rfl) (by kernel_rfl) ?_
                go_big_quiet_want
                refine quiet_load_dents _ rfl c 0 rfl A hAl (fun w' ⟨x, hx⟩ => by rw [hx]; exact (hA8.kept x.grown (by simp)).range) ?_
                go_big_quiet_on
                go_frame
                repeat (first | go_big_quiet_skip | (go_big_quiet_want; go_big_quiet_op; go_big_quiet_on))
                go_big_quiet_want
                refine quiet_load_dents _ rfl b 3 rfl (pad (ofL X')) (pad_len _) (fun w' ⟨x, hx⟩ => by rw [hx]; exact (hF8.blk.later x).rangeN) ?_
                go_big_quiet_on
                go_frame
                go_big_quiet_want
                refine quiet_eq_dents _ _ _ rfl A (pad (ofL X')) rfl rfl hAl (pad_len _) ?_
                go_big_quiet_on
                go_frame
                refine wpQuiet_nil ?_
                intro y
                have hF9 := hF8.later y
                by_cases hE : X' = X
                · have hdec : decide (A = pad (ofL X')) = true := by rw [hE, HA.out]; simp
                  have hHam : Ham w h d X U' := by
                    have := hW.out
                    rw [hE] at this
                    exact this.end_same hs hL
                  rw [hE] at hF9
                  rw [hdec]
                  clear hdec hE
                  go_wp2
                  refine bodyPost_ret (results_none rfl _ _ _) rfl ?_
                  exact ⟨⟨_, rfl⟩, X, U', hHam, hF9.blk, by rw [← HN0.out]; exact hF9.but⟩
                · have hdec : decide (A = pad (ofL X')) = false := by
                    rw [decide_eq_false_iff_not, ← HA.out]
                    intro h
                    refine hE (ofL_ext (by rw [hXl, hI.out.1.2.2.1, HN.out]) fun j hj => ?_)
                    exact (pad_inj h (by rw [hXl] at hj; omega)).symm
                  have hmore := hW.out.end_more hE
                  have hnew := Lib.hid (show (12600 - Sand.sum (w * h) (ofL U')) < ((gk - 1 : Nat) : Int) ∧ n + k + 36 * (gk - 1) ≤ 36 * 13000 by
                    have h1 := hI.out.2
                    have h2 := low_sum hs hW.out.run' hlow
                    omega)
                  have hgk : 0 < gk := by
                    have h1 := hI.out.2.1
                    have h2 := low_sum hs hI.out.1 hlow
                    omega
                  have hM10 := hM9.kept y.grown (by simp)
                  rw [hdec]
                  clear hdec hE
                  go_wp2
                  go_roundg (gk - 1)
                  case measure => omega
                  case rel => exact ⟨X', U', D, _, n + k, hF9, hM10, hS6, hW.out.run', hnew.out.1, hnew.out.2⟩
              · intro p cc w1 cnt1 hp hlp hp0 hcc hrg1 hlt hg1 hs1 hen
                subst hcc
                have hpN : p < w * h := by rw [← HN.out]; exact hp
                have hF9 := (hF8.grown hg1 (fun q e => by cases e; omega)).later (Later.new _ (.cells #[.int .i64 (p : Int)] SPT))
                have hA9 := (hA8.kept hg1 (fun e => by cases e; omega)).kept (World.grownBy_alloc _ (.cells #[.int .i64 (p : Int)] SPT) none) (by simp)
                have hrg2 := hrg1.alloc (.cells #[.int .i64 (p : Int)] SPT)
                rw [Later.new_w] at hF9
                have hlx := fun j (hj : j < w * h) => low_x hs hW.out.run' hlow j hj
                have hlx0 := low_x hs hI.out.1 hlow p hpN
                have hH := Lib.hid (hit_calls b w h p (ofL X p / 4) dv _ _ hs hpN _ hF9.blk (tame_pad fun j hj => by
                    by_cases e : j < w * h
                    · have := hlx j e; omega
                    · rw [show ofL X' j = 0 by simp [ofL, List.getElem?_eq_none (show X'.length ≤ j by rw [hXl, HN.out]; omega)]]; omega) (tame_pad fun j hj => by
                    have hBj := hB j hj
                    by_cases e : j < w * h
                    · have h1 := low_u hs hW.out.run' hlow j e
                      have h2 := hW.out.run'.pos j e
                      omega
                    · rw [show ofL U' j = 0 by simp [ofL, List.getElem?_eq_none (show U'.length ≤ j by rw [hUl, HN.out]; omega)]]; omega) (by omega) (by omega))
                have hnew := Lib.hid (hW.out.hit hs (L' := fun j => left (spotL j) && !(spotL j).sameKey (spotL p)) hpN hlp hp0 (fun j hj h => by
                  have hsm := spot_same (p := j) (q := p) (by rw [HN.out] at h36; omega) (by omega)
                  rw [Bool.and_eq_true, hsm] at h
                  exact ⟨h.1, by simpa using h.2⟩))
                clear hlx hlx0
                go_wp2_with (go_at_call 53; refine hH.out.mono ?_; rintro e w' ⟨⟨v, rfl⟩, hbk, hbut⟩)
                have hF10 := hF9.hit hbk hbut
                rw [hitL_pad hs (by rw [hXl, HN.out]) hpN, addAt_padL B U' (by omega) (by omega)] at hF10
                go_roundw
                case rel => exact ⟨_, cnt1, _, _, hF10, hA9.kept hbut.grown (fun e => by have := hF9.lt; have := Option.some.inj e; omega), hrg2.kept hbut.grown (fun e => by have := hF9.lt; have := Option.some.inj e; omega) (fun e => by have := hF9.lt; have := Option.some.inj e; omega), hnew.out⟩
                case measure => rw [(hrg2.kept hbut.grown (fun e => by have := hF9.lt; have := Option.some.inj e; omega) (fun e => by have := hF9.lt; have := Option.some.inj e; omega)).left_eq, hrg.left_eq]; exact hlt
          · intro p cc w1 cnt1 hp hlp hgp hrg1 hlt hg1 hs1 hen
            have hcc : cc = ofL X p / 4 := by
              unfold gE at hgp
              rw [if_pos (.inr hlp)] at hgp
              exact (Option.some.inj hgp).symm
            subst hcc
            have hF6 := hF5.grown hg1 (fun q e => by cases e; omega)
            have hA6 := hA5.kept hg1 (fun e => by cases e; omega)
            clear hF5 hA5
            by_cases hc0 : 0 < ofL X p / 4
            · have hc1 : ¬ ofL X p / 4 ≤ 0 := by omega
              go_wp2
              go_roundw
              case rel => exact ⟨D, _, cnt1, hF6.later (Later.new _ _), hA6.kept (World.grownBy_alloc _ _ none) (by simp), hrg1.alloc _, hS5.congr (fun q hq => gE_stay h36 hp hc0 hq)⟩
              case measure => rw [(hrg1.alloc _).left_eq, hrg.left_eq]; exact hlt
            · have hc1 : ofL X p / 4 ≤ 0 := by omega
              have hrg1' := hrg1.alloc (.cells #[.int .i64 (p : Int)] SPT)
              go_wp2_with (first
                | (at_delete; refine wpList_delete_ranges _ rfl _ _ 95 SPT rfl 2 spot_law Try.underlying95 RN n0 r (n + k) D _ _ rfl hrg1' _ (spotL p) rfl (spot_key (by omega)) ?_; intro w2 cnt2 hrg2 hle hturn; go_frame))
              rw [strike_twice] at hrg2
              have hF7 := (hF6.later (Later.new _ (.cells #[.int .i64 (p : Int)] SPT))).grown hturn.grown (fun q e => by cases e; exact Nat.le_refl _)
              have hA7 := (hA6.kept (World.grownBy_alloc _ (.cells #[.int .i64 (p : Int)] SPT) none) (by simp)).kept hturn.grown (fun e => by cases e; omega)
              go_roundw
              case rel => exact ⟨_, _, cnt2, hF7, hA7, hrg2, (hS5.del h36 hp).congr (fun q hq => gE_gone h36 hp hc0 hq)⟩
              case measure => rw [hrg2.left_eq, hrg.left_eq]; omega
end Go.Proofs.Ytbjmfhlkmklmmaa

/-  newBlock, open. -/
namespace Go.Proofs.Ytbjmfhlkmklmmaa
open Go.RowKit

theorem below_setCells {n b : Nat} {W : World} (hn : n ≤ b) : ∀ (vs : List Value) (o : Nat) (U : World), Below n W U → Below n W (U.setCells b o vs)
  | [], _, _, h => h
  | _ :: vs, o, _, h => below_setCells hn vs (o + 1) _ (h.setCell (p := ⟨b, o, none⟩) hn _)
def setL : List Int → Nat → List Int → List Int
  | now, _, [] => now
  | now, k, y :: ys => setL (now.set k y) (k + 1) ys
theorem Blk.setsN {b : Nat} {w h : Int} {dv : Value} {bl : List Int} : ∀ (ys : List Int) (k : Nat) (W : World) (now : List Int), Blk W b w h dv now bl → k + ys.length ≤ 36 → Blk (W.setCells b (3 + k) (ys.map (Value.int .i64))) b w h dv (setL now k ys) bl
  | [], _, _, _, hb, _ => hb
  | y :: ys, k, W, now, hb, hk => by
    rw [List.length_cons] at hk
    have := Blk.setsN ys (k + 1) _ _ (hb.setN (k := k) (by omega) y) (by omega)
    rwa [← Nat.add_assoc] at this
theorem Blk.setsB {b : Nat} {w h : Int} {dv : Value} {now : List Int} : ∀ (ys : List Int) (k : Nat) (W : World) (bl : List Int), Blk W b w h dv now bl → k + ys.length ≤ 36 → Blk (W.setCells b (39 + k) (ys.map (Value.int .i64))) b w h dv now (setL bl k ys)
  | [], _, _, _, hb, _ => hb
  | y :: ys, k, W, bl, hb, hk => by
    rw [List.length_cons] at hk
    have := Blk.setsB ys (k + 1) _ _ (hb.setB (k := k) (by omega) y) (by omega)
    rwa [← Nat.add_assoc] at this
theorem setL_len : ∀ (ys now : List Int) (k : Nat), (setL now k ys).length = now.length
  | [], _, _ => rfl
  | y :: ys, now, k => by rw [setL, setL_len ys, List.length_set]
theorem ofL_setL : ∀ (ys now : List Int) (k : Nat), k + ys.length ≤ now.length → ∀ j, ofL (setL now k ys) j = if k ≤ j ∧ j < k + ys.length then ofL ys (j - k) else ofL now j
  | [], now, k, _, j => by rw [setL, if_neg (by rw [List.length_nil]; omega)]
  | y :: ys, now, k, hk, j => by
    rw [List.length_cons] at hk
    rw [setL, ofL_setL ys _ (k + 1) (by rw [List.length_set]; omega), ofL_set _ _ _ _ (by omega), List.length_cons]
    by_cases e : j = k
    · subst e; rw [if_neg (by omega), if_pos rfl, if_pos (by omega)]; simp [ofL]
    · by_cases h2 : k + 1 ≤ j ∧ j < k + 1 + ys.length
      · rw [if_pos h2, if_pos (by omega), show j - k = (j - (k + 1)) + 1 by omega]; simp [ofL]
      · rw [if_neg h2, if_neg e, if_neg (by omega)]
theorem setL_pad {d : List Int} (hl : d.length ≤ 36) : setL (pad fun _ => 0) 0 d = pad (ofL d) :=
  ofL_ext (by rw [setL_len, pad_len, pad_len]) fun j hj => by
    rw [setL_len, pad_len] at hj
    rw [ofL_setL _ _ _ (by rw [pad_len]; omega), ofL_pad _ hj, ofL_pad _ hj]
    by_cases e : j < d.length
    · rw [if_pos (by omega)]; rfl
    · rw [if_neg (by omega)]; simp [ofL, List.getElem?_eq_none (show d.length ≤ j by omega)]
theorem setL_zero : setL (pad fun _ => 0) 0 (List.replicate 36 0) = pad fun _ => 0 := by
  decide +kernel
theorem newCells (w h : Int) (v : Value) : (((Try.zeroCells77.setIfInBounds 0 (Value.int IntKind.i64 w)).setIfInBounds 1 (Value.int IntKind.i64 h)).setIfInBounds 2 v) = (bcells w h v (pad fun _ => 0) (pad fun _ => 0)).toArray := by rfl
set_option maxRecDepth 100000 in
set_option maxHeartbeats 4000000 in
theorem newBlock_calls (w h : Int) (dv : Value) (d : List Int) (W : World) (hd : Ints W dv d) (hl : d.length ≤ 36) (h1 : 1 ≤ d.length) :
    Calls Try.prog 65 #[.agg #[.int .i64 w, .int .i64 h, dv]] W fun e W' => ∃ b, ∃ x : Later W, e = .returned (.pointer (some ⟨b, 0, none⟩)) ∧ W' = x.w ∧ W.heap.size ≤ b ∧ Blk W' b w h dv (pad (ofL d)) (pad fun _ => 0) := by
  have hdl := hd.1
  obtain ⟨bd, od, cd, rfl, hcd, hbd, hgd⟩ := hd.at (k := 0) (by omega)
  obtain ⟨V, hV⟩ : ∃ V : World, V = (W.alloc (.cells #[.int .i64 w, .int .i64 h, .slice (some ⟨bd, od, none⟩) d.length cd] 24)).alloc (.cells (((Try.zeroCells77.setIfInBounds 0 (Value.int IntKind.i64 w)).setIfInBounds 1 (Value.int IntKind.i64 h)).setIfInBounds 2 (.slice (some ⟨bd, od, none⟩) d.length cd)) 77) := ⟨_, rfl⟩
  have hb0 : Blk V (W.heap.size + 1) w h (.slice (some ⟨bd, od, none⟩) d.length cd) (pad fun _ => 0) (pad fun _ => 0) := by
    refine ⟨?_, pad_len _, pad_len _⟩
    rw [hV, newCells]
    have := World.alloc_heap_new (W.alloc (.cells #[.int .i64 w, .int .i64 h, .slice (some ⟨bd, od, none⟩) d.length cd] 24)) (.cells (bcells w h (.slice (some ⟨bd, od, none⟩) d.length cd) (pad fun _ => 0) (pad fun _ => 0)).toArray 77)
    rw [World.size_alloc] at this
    exact this
  have hB0 : Below W.heap.size W V := by rw [hV]; exact ((Later.new W _).step (Later.new _ _)).le
  have k2 : V.cell? ⟨W.heap.size, 2, none⟩ = some (.slice (some ⟨bd, od, none⟩) d.length cd) := by rw [hV]; simp [go_sem]
  have hcl := fun ty => Lib.run_clear_slice (P := Try.prog) V 22 2 ty (.int .i64 0) Try.underlying22 (fun w => by kernel_rfl) rfl rfl (W.heap.size + 1) 39 36 36 (by decide) (fun j hj => by rw [hb0.cellB hj]; rfl) (fun j hj => hb0.frozen _)
  have hbs := Blk.setsB (List.replicate 36 0) 0 V _ hb0 (by simp)
  rw [setL_zero, List.map_replicate] at hbs
  obtain ⟨V2, hV2⟩ : ∃ V2, V2 = V.setCells (W.heap.size + 1) 39 (List.replicate 36 (.int .i64 0)) := ⟨_, rfl⟩
  have hB2 : Below W.heap.size W V2 := by rw [hV2]; exact below_setCells (by omega) _ _ _ hB0
  have k3 : V2.cell? ⟨W.heap.size, 2, none⟩ = some (.slice (some ⟨bd, od, none⟩) d.length cd) := by rw [hV2, World.cell?_setCells_out _ _ _ _ _ (fun h => by simp at h)]; exact k2
  rw [← hV2] at hbs hcl
  have hsz : W.heap.size + 1 < V2.heap.size := hbs.lt
  rw [hV] at hcl
  have hcl0 := hcl 0
  have HG := Lib.hid (show ∀ k, k < d.length → V2.cell? ⟨bd, od + k, none⟩ = some (.int .i64 (nth d k)) from fun k hk => (hB2.cell (p := ⟨bd, od + k, none⟩) hbd).trans (hgd k hk))
  have HBd := Lib.hid (show bd < V2.heap.size by have := hB2.size; omega)
  clear hcl hV2 hV hb0 hB0 k2 hbd hgd hcd hd
  clear V
  go_enter Try.func65, Try.ntmps65
  go_wp2_with fail
  obtain ⟨p0, hp0⟩ : ∃ p0, p0 = W.heap.size := ⟨_, rfl⟩
  rw [← hp0] at hbs hB2 k3 hsz ⊢
  clear hcl0
  have lb := hbs.lt
  have l0 : p0 < V2.heap.size := by omega
  have HP := Lib.hid hp0
  clear hp0
  refine Mix.region_mixL (Mix.kinds [] [] [6]) (by kernel_rfl) (by kernel_rfl) ?_
  repeat ((with_reducible refine Mix.atCons ?_); first | refine Mix.skipU (by rfl) rfl (by rfl) ?_ | (refine Mix.val rfl rfl (by rfl) (fun K hK => ?_); go_big_quiet_op; refine hK _ ?_; clear hK K))
  refine Mix.last rfl (by rfl) (fun x K hK => ?_)
  have hbx := hbs.later x
  have hcp := run_copy_cells (P := Try.prog) x.w 22 22 3 2 (p0 + 1) 3 36 36 ⟨bd, od, none⟩ d.length cd (d.map (Value.int .i64)) Try.underlying22 (by kernel_rfl) (by rw [List.length_map]; exact (Nat.min_eq_left hl).symm)
    (fun j v hj => by
      rw [List.getElem?_map] at hj
      obtain ⟨y, hy, rfl⟩ := Option.map_eq_some_iff.1 hj
      have hjl := (List.getElem?_eq_some_iff.1 hy).1
      have := (x.cell HBd.out).trans (HG.out j hjl)
      rw [nth_eq hjl, (List.getElem?_eq_some_iff.1 hy).2] at this
      rw [Addr.add_lit]
      exact this) (fun j hj => by rw [List.length_map] at hj; rw [hbx.cellN (by omega)]; rfl) (fun j hj => hbx.frozen _) (fun v hv => by obtain ⟨y, _, rfl⟩ := List.mem_map.1 hv; rfl)
  have hbs2 := Blk.setsN d 0 _ _ hbx (by omega)
  rw [setL_pad hl] at hbs2
  have hB3 := below_setCells (n := p0) (b := p0 + 1) (by omega) (d.map (Value.int .i64)) 3 _ (hB2.trans (x.le.mono (by omega)))
  obtain ⟨V3, hV3⟩ : ∃ V3, V3 = x.w.setCells (p0 + 1) 3 (d.map (Value.int .i64)) := ⟨_, rfl⟩
  rw [← hV3] at hcp hB3
  rw [Nat.add_zero, ← hV3] at hbs2
  clear hV3 hbx
  go_wp2_with fail
  refine Mix.done (fun y => ?_)
  go_wp2
  go_ret
  exact ⟨p0 + 1, ⟨y.w, by rw [← HP.out]; exact hB3.trans (y.le.mono (by have := hB3.size; have := HP.out; omega))⟩, rfl, rfl, by rw [← HP.out]; omega, hbs2.later y⟩
end Go.Proofs.Ytbjmfhlkmklmmaa

/-  CheckPlate, open. -/
namespace Go.Proofs.Ytbjmfhlkmklmmaa
open Go.RowKit

theorem sizeB_any (w h m : Int) : (!([w, h].any (outB 1 m))) = sizeB w h m := by
  rw [Bool.eq_iff_iff]
  simp [sizeB, outB]
  omega
set_option maxRecDepth 100000 in
set_option maxHeartbeats 4000000 in
theorem CheckPlate_calls (w h : Int) (dv : Value) (d : List Int) (W : World) (hd : Ints W dv d) :
    Calls Try.prog 22 #[.agg #[.int .i64 w, .int .i64 h, dv]] W (Gives (.int .i64 (vplate w h d)) W) := by
  have hdl := hd.1
  obtain ⟨a, c, rfl⟩ := hd.form
  go_enter Try.func22, Try.ntmps22
  go_wp2_with fail
  obtain ⟨B, hB⟩ : ∃ B, B = W.heap.size := ⟨_, rfl⟩
  obtain ⟨z, hz⟩ : ∃ z : Later W, z.w = W.alloc (.cells #[.int .i64 w, .int .i64 h, .slice a d.length c] 24) := ⟨Later.new _ _, rfl⟩
  have c0 : z.w.cell? ⟨B, 0, none⟩ = some (.int .i64 w) := by rw [hz, hB]; simp [go_sem]
  have c1 : z.w.cell? ⟨B, 1, none⟩ = some (.int .i64 h) := by rw [hz, hB]; simp [go_sem]
  have c2 : z.w.cell? ⟨B, 2, none⟩ = some (.slice a d.length c) := by rw [hz, hB]; simp [go_sem]
  have hBz : B < z.w.heap.size := by rw [hz, hB]; simp [go_sem]
  have HZ : Hid (z.w.heap.size = B + 1) := Lib.hid (by rw [hz, hB]; simp)
  rw [← hz, ← hB]
  replace hd := hd.later z
  clear hz hB
  have hI := Ints.lit z.w [w, h] (arr := #[.int .i64 w, .int .i64 h]) (n := 2) (b := B + 1) 2 HZ.out.symm rfl rfl (by simp)
  refine (within_calls _ [w, h] 1 6 _ hI).mono ?_
  rintro e w' ⟨rfl, x, rfl⟩
  rw [sizeB_any]
  obtain ⟨q, hq⟩ : ∃ q : Later z.w, x.w = q.w := ⟨(Later.new _ _).step x, rfl⟩
  rw [hq]
  clear hq x hI
  obtain ⟨x, rfl⟩ : ∃ x, x = q := ⟨_, rfl⟩
  have gB0 : x.w.cell? ⟨B, 0, none⟩ = some (.int .i64 w) := ((x).cell hBz).trans c0
  have gB1 : x.w.cell? ⟨B, 1, none⟩ = some (.int .i64 h) := ((x).cell hBz).trans c1
  have gB2 : x.w.cell? ⟨B, 2, none⟩ = some (.slice a d.length c) := ((x).cell hBz).trans c2
  have sB : B < x.w.heap.size := Nat.lt_of_lt_of_le hBz (x).size
  cases hs : sizeB w h 6
  · have hr := Lib.hid (show vplate w h d = 3 by rw [vplate, if_pos hs])
    go_wp2
    go_ret
    exact ⟨ret_int hr.out.symm, z.step x, rfl⟩
  · have hm := mul_wrap hs
    by_cases hl : (d.length : Int) = w * h
    rotate_left
    · have hr := Lib.hid (show vplate w h d = 15 by rw [vplate, if_neg (by rw [hs]; simp), if_pos hl])
      have hl2 : ((d.length : Int) != w * h) = true := by simpa using hl
      clear hl
      go_wp2
      go_ret
      exact ⟨ret_int hr.out.symm, z.step x, rfl⟩
    · have hr := Lib.hid (show vplate w h d = if d.any (outB 0 30) then 2 else 0 by rw [vplate, if_neg (by rw [hs]; simp), if_neg (by simpa using hl)])
      go_wp2_with fail
      refine (within_calls _ d 0 30 _ (hd.later x)).mono ?_
      rintro e w' ⟨rfl, y, rfl⟩
      cases ha : d.any (outB 0 30)
      · rw [ha] at hr
        go_wp2
        go_ret
        exact ⟨ret_int hr.out.symm, (z.step x).step y, rfl⟩
      · rw [ha] at hr
        go_wp2
        go_ret
        exact ⟨ret_int hr.out.symm, (z.step x).step y, rfl⟩
/-- open: the block of a valid plate, or the error -/
def GivesOpen (w h : Int) (dv : Value) (d : List Int) (W : World) (e : Ending) (W' : World) : Prop := ∃ v, ∃ x : Later W, e = .returned (.tuple #[v, .int .i64 (vplate w h d)]) ∧ W' = x.w ∧
  if vplate w h d = 0 then ∃ b, v = .pointer (some ⟨b, 0, none⟩) ∧ W.heap.size ≤ b ∧ Blk x.w b w h dv (pad (ofL d)) (pad fun _ => 0) else v = .pointer none
set_option maxRecDepth 100000 in
set_option maxHeartbeats 4000000 in
theorem open_calls (w h : Int) (dv : Value) (d : List Int) (W : World) (hd : Ints W dv d) :
    Calls Try.prog 52 #[.agg #[.int .i64 w, .int .i64 h, dv]] W (GivesOpen w h dv d W) := by
  have hdl := hd.1
  obtain ⟨a, c, rfl⟩ := hd.form
  go_enter Try.func52, Try.ntmps52
  go_wp2_with fail
  obtain ⟨B, hB⟩ : ∃ B, B = W.heap.size := ⟨_, rfl⟩
  obtain ⟨z, hz⟩ : ∃ z : Later W, z.w = W.alloc (.cells #[.int .i64 w, .int .i64 h, .slice a d.length c] 24) := ⟨Later.new _ _, rfl⟩
  have c0 : z.w.cell? ⟨B, 0, none⟩ = some (.int .i64 w) := by rw [hz, hB]; simp [go_sem]
  have c1 : z.w.cell? ⟨B, 1, none⟩ = some (.int .i64 h) := by rw [hz, hB]; simp [go_sem]
  have c2 : z.w.cell? ⟨B, 2, none⟩ = some (.slice a d.length c) := by rw [hz, hB]; simp [go_sem]
  have hBz : B < z.w.heap.size := by rw [hz, hB]; simp [go_sem]
  have HZ : Hid (z.w.heap.size = B + 1) := Lib.hid (by rw [hz, hB]; simp)
  rw [← hz, ← hB]
  replace hd := hd.later z
  clear hz hB
  refine (CheckPlate_calls w h _ d _ hd).mono ?_
  rintro e w' ⟨rfl, x, rfl⟩
  have gB0 : x.w.cell? ⟨B, 0, none⟩ = some (.int .i64 w) := ((x).cell hBz).trans c0
  have gB1 : x.w.cell? ⟨B, 1, none⟩ = some (.int .i64 h) := ((x).cell hBz).trans c1
  have gB2 : x.w.cell? ⟨B, 2, none⟩ = some (.slice a d.length c) := ((x).cell hBz).trans c2
  have sB : B < x.w.heap.size := Nat.lt_of_lt_of_le hBz (x).size
  by_cases hv : vplate w h d = 0
  · have HV := Lib.hid hv
    obtain ⟨wn, hn, rfl, rfl, hs, hl, _⟩ := vplate_zero hv
    have h36 : wn * hn ≤ 36 := Nat.mul_le_mul hs.2.1 hs.2.2.2
    have h1 : 1 ≤ wn * hn := Nat.mul_le_mul hs.1 hs.2.2.1
    have hNB := Lib.hid (newBlock_calls wn hn _ d x.w (hd.later x) (by omega) (by omega))
    have HL := Lib.hid hl
    clear hl
    rw [hv]
    clear hv
    go_wp2_with fail
    refine hNB.out.mono ?_
    rintro e w' ⟨b, y, rfl, rfl, hb, hbk⟩
    go_wp2
    go_ret2
    refine ⟨_, (z.step x).step y, ret_le HV.out.symm, rfl, ?_⟩
    rw [if_pos HV.out]
    exact ⟨b, rfl, Nat.le_trans (z.step x).size hb, hbk⟩
  · have hv2 : (vplate w h d != 0) = true := by simpa using hv
    have HV := Lib.hid hv
    clear hv
    go_wp2
    go_ret2
    refine ⟨_, z.step x, rfl, rfl, ?_⟩
    rw [if_neg HV.out]
    rfl
end Go.Proofs.Ytbjmfhlkmklmmaa

/-  list: the numbers of the places. -/
namespace Go.Proofs.Ytbjmfhlkmklmmaa
open Go.RowKit

/-- append(x[:n:n], y): a new block -/
theorem run_append_cut (w : World) (xs : List Int) (n : Nat) (ao : Option Addr) (hx : Ints w (.slice ao n n) xs) (hl : n = xs.length) (b c : Nat) (y : Int) (hb : w.cell? ⟨b, 0, none⟩ = some (.int .i64 y)) (hbig : n ≤ 1000000) (ty : TypeId) :
    ∃ c', ∃ q : Later w, (Builtin.append_ #[22, 22] ty #[.slice ao n n, .slice (some ⟨b, 0, none⟩) 1 c]).run Try.prog w = .ok (.slice (some ⟨w.heap.size, 0, none⟩) (n + 1) c') q.w ∧ Ints q.w (.slice (some ⟨w.heap.size, 0, none⟩) (n + 1) c') (xs ++ [y]) := by
  obtain ⟨i, hi, hz, hsz, hby⟩ := info_intN
  have hs : Src Try.prog i.size 22 (.slice (some ⟨b, 0, none⟩) 1 c) 1 [.int .i64 y] w := Src.ofSlice w (e' := 2) Try.underlying22 ⟨b, 0, none⟩ 1 c [.int .i64 y] (by rw [hsz]; rfl) (by
    intro j u hj
    match j with
    | 0 => simp at hj; subst hj; exact hb
    | j + 1 => simp at hj) (by intro u hu; simp at hu; subst hu; rfl)
  have hold : (Builtin.firstCells i.size n (.slice ao n n)).run Try.prog w.drew = .ok (xs.map (Value.int .i64)).toArray w.drew := by
    obtain ⟨_, ⟨rfl, a, cap, e⟩ | ⟨b', off, cap, e, hcp, hlt, hc⟩⟩ := hx
    · cases e
      cases ao with
      | none => exact run_firstCells_none w.drew _ _ _ _
      | some a => exact run_firstCells_some w.drew _ _ _ _ _ [] (by simp) (by simp)
    · cases e
      refine run_firstCells_some w.drew _ _ _ _ _ _ (by rw [hsz]; simp) fun j v hj => ?_
      rw [List.getElem?_map] at hj
      obtain ⟨x, hx, rfl⟩ := Option.map_eq_some_iff.1 hj
      have hjl := (List.getElem?_eq_some_iff.1 hx).1
      have := hc j hjl
      rw [nth_eq hjl, (List.getElem?_eq_some_iff.1 hx).2] at this
      rw [Addr.add_lit]
      exact this
  have hn := nextslicecap_le (need := n + 1) (old := n) (by omega)
  have hr := run_append_grow_src w 22 22 ty 2 i (.int .i64 0) Try.underlying22 hi hz ao n n (xs.map (Value.int .i64)) hold _ 1 [.int .i64 y] hs (by omega) (by omega) (by rw [hby]; omega)
  obtain ⟨Z, hZ⟩ : ∃ Z, Builtin.zeroCells (Value.int .i64 0).cells (grownCap w (n + 1) n 2 - (n + 1)) = Z := ⟨_, rfl⟩
  rw [hZ] at hr
  have e : ((xs.map (Value.int .i64) ++ [Value.int .i64 y]).toArray ++ Z : Array Value) = ((xs ++ [y]).map (Value.int .i64) ++ Z.toList).toArray := by
    apply Array.ext'
    simp
  rw [e] at hr
  refine ⟨_, (Later.draw w).step (Later.new _ _), hr, by simp; omega, .inr ⟨w.heap.size, 0, _, by rw [List.length_append, List.length_singleton, ← hl], by rw [List.length_append, List.length_singleton, ← hl]; exact grownCap_ge w (n + 1) n 2, (by show w.heap.size < (World.alloc w.drew _).heap.size; rw [World.size_alloc]; exact Nat.lt_succ_self _), fun k hk => ?_⟩⟩
  have h2 := World.alloc_heap_new w.drew (.cells ((xs ++ [y]).map (Value.int .i64) ++ Z.toList).toArray 2)
  rw [show w.drew.heap.size = w.heap.size from rfl] at h2
  have h3 : ((xs ++ [y]).map (Value.int .i64) ++ Z.toList)[k]? = some (Value.int .i64 (nth (xs ++ [y]) k)) := by
    rw [List.getElem?_append_left (by rw [List.length_map]; exact hk), List.getElem?_map, List.getElem?_eq_getElem hk, nth_eq hk]; rfl
  show World.cell? (World.alloc w.drew _) _ = _
  simp only [World.cell?, h2, Nat.zero_add]
  rw [← h3]
  simp
theorem Ints.cut {w : World} {a : Option Addr} {n c : Nat} {xs : List Int} (h : Ints w (.slice a n c) xs) : n = xs.length ∧ n ≤ max n c ∧ Ints w (.slice a n n) xs ∧ (0 < n → n ≤ c) := by
  obtain ⟨h1, ⟨rfl, a', c', e⟩ | ⟨b, off, cap, e, hcp, hb, hg⟩⟩ := h
  · cases e; exact ⟨rfl, Nat.zero_le _, Ints.nil _ _, fun h => absurd h (Nat.lt_irrefl _)⟩
  · cases e; exact ⟨rfl, Nat.le_max_left _ _, ⟨h1, .inr ⟨b, off, _, rfl, Nat.le_refl _, hb, hg⟩⟩, fun _ => hcp⟩
theorem take_snoc {xs : List Int} {k : Nat} (h : k < xs.length) : xs.take k ++ [nth xs k] = xs.take (k + 1) := by
  rw [nth_eq h, List.take_succ_eq_append_getElem h]
theorem take_pad {X : List Int} {N : Nat} (hl : X.length = N) (h36 : N ≤ 36) : (pad (ofL X)).take N = X :=
  List.ext_getElem (by simp [pad_len]; omega) fun j h1 h2 => by simp [pad, ofL, h2]
theorem run_append_cut' (w : World) (xs : List Int) (n : Nat) (ao : Option Addr) (hx : Ints w (.slice ao n n) xs) (hl : n = xs.length) (b c : Nat) (y : Int) (hb : w.cell? ⟨b, 0, none⟩ = some (.int .i64 y)) (hbig : n ≤ 1000000) (ty : TypeId) :
    ∃ a' n' c', ∃ q : Later w, (Builtin.append_ #[22, 22] ty #[.slice ao n n, .slice (some ⟨b, 0, none⟩) 1 c]).run Try.prog w = .ok (.slice a' n' c') q.w ∧ Ints q.w (.slice a' n' c') (xs ++ [y]) := by
  obtain ⟨c', q, h1, h2⟩ := run_append_cut w xs n ao hx hl b c y hb hbig ty
  exact ⟨_, _, c', q, h1, h2⟩
set_option maxRecDepth 100000 in
set_option maxHeartbeats 4000000 in
theorem list_calls (b w h : Nat) (dv : Value) (now bl L : List Int) (W : World) (hb : Blk W b w h dv now bl) (hL : L.length = 36) (h36 : w * h ≤ 36) :
    Calls Try.prog 54 #[.pointer (some ⟨b, 0, none⟩), .agg (aggA L)] W fun e W' => ∃ v, ∃ x : Later W, e = .returned v ∧ W' = x.w ∧ Ints x.w v (L.take (w * h)) := by
  go_enter Try.func54, Try.ntmps54
  go_wp2_with fail
  obtain ⟨s0, hs0⟩ : ∃ s0, s0 = W.heap.size := ⟨_, rfl⟩
  obtain ⟨V, hV⟩ : ∃ V : Later W, V.w = W.alloc (.cells (aggA L) 75) := ⟨Later.new _ _, rfl⟩
  have hA : Arr V.w s0 L := by rw [hV, hs0]; exact World.alloc_heap_new W _
  have hbV := hb.later V
  rw [← hV, ← hs0]
  clear hV hb hs0
  have c0 := hbV.cellW
  have c1 := hbV.cellH
  have lb := hbV.lt
  obtain ⟨N, hN⟩ : ∃ N, N = w * h := ⟨_, rfl⟩
  have eN : IntKind.i64.wrap ((w : Int) * (h : Int)) = (N : Int) := by rw [hN]; exact wrap_size h36
  rw [← hN] at h36
  have HN := Lib.hid hN
  clear hN
  have h36i : (N : Int) ≤ 36 := by omega
  have h36n : ¬ (36 : Int) < N := by omega
  refine region_later_lit (by kernel_rfl) (by kernel_rfl) ?_
  repeat (first | go_big_quiet_step (first
       | (fail)))
  refine wpQuiet_nil ?_
  intro y
  have hAy := hA.kept y.grown (by simp)
  obtain ⟨Y, hY⟩ : ∃ Y : Later W, Y.w = y.w := ⟨V.step y, rfl⟩
  rw [← hY] at hAy ⊢
  clear hY y c0 c1 lb hA hbV
  clear V
  go_wp2
  go_loopw [5, 21] (fun o i wr => ∃ (k : Nat) (x : Later Y.w) (a : Option Addr) (n c : Nat), wr = x.w ∧ k ≤ N ∧ i = .int .i64 k ∧ o = .slice a n c ∧ Ints x.w (.slice a n c) (L.take k)) (fun _ i _ => N - (intOf i).toNat)
  case atStart => exact ⟨0, Later.self _, none, 0, 0, rfl, Nat.zero_le _, rfl, rfl, Ints.nil _ _⟩
  case round =>
    obtain ⟨k, x, a, n, c, rfl, hk, rfl, rfl, hX⟩ := hrel
    by_cases hlt : k < N
    · have hAx := hAy.kept x.grown (by simp)
      have c1 : x.w.cell? ⟨s0, k, none⟩ = some (.int .i64 (nth L k)) := by
        have := hAx.range k (.int .i64 (nth L k)) (by simp [nth, show k < L.length by omega])
        rwa [Nat.zero_add] at this
      obtain ⟨hn1, _, hX2, hn2⟩ := hX.cut
      have hLk : (L.take k).length = k := by rw [List.length_take]; omega
      rw [hLk] at hn1
      subst hn1
      have hcap : n ≤ c := by
        rcases Nat.eq_zero_or_pos n with e | e
        · omega
        · exact hn2 e
      obtain ⟨a', n', c', q, hrun, hXn⟩ := run_append_cut' (x.w.alloc (.cells #[.int .i64 (nth L n)] 2)) (L.take n) n a (by have := hX2.later (Later.new x.w (.cells #[.int .i64 (nth L n)] 2)); exact this) hLk.symm x.w.heap.size 1 (nth L n) (by simp [go_sem]) (by omega) 22
      have HR := Lib.hid hrun
      rw [take_snoc (by omega)] at hXn
      have HX := Lib.hid hXn
      clear hrun hXn hn2 hLk hX hX2
      go_wp2_with (at_builtin; (with_reducible show wpList _ _ _ (⟨some 33, _, _, _, _, _⟩ :: _) _ _); refine Lib.wpList_append_run_sl _ rfl _ _ 22 rfl _ _ rfl rfl HR.out ?_)
      go_roundw
      case rel => exact ⟨n + 1, (x.step (Later.new _ _)).step q, _, _, _, rfl, by omega, by go_num, rfl, HX.out⟩
      case measure => simp [intOf]; omega
    · obtain rfl : k = N := by omega
      go_wp2
      go_ret
      exact ⟨_, Y.step x, rfl, rfl, by rw [← HN.out]; exact hX⟩
end Go.Proofs.Ytbjmfhlkmklmmaa
