import Derived.Test.YtpkgfkeekcgkcaaKA
import Derived.Test.YtpkgfkeekcgkcaaKJ
import Derived.RangeFuncNested
import Derived.RangeFuncBound
import Derived.RangeFuncCalls
import Derived.RangeFuncLeaves
import Derived.Shelf.Abstract
import Derived.Shelf.RegionOpen
import Derived.OwnWalkIn
import Derived.TacticsInMore
import Derived.LoopNIn
import Derived.LoopIn
import Derived.Sort.BigQuietIn
import Derived.Test.YtpkgfkeekcgkcaaKD
import Derived.RangeFuncOne
import Derived.Test.YtpkgfkeekcgkcaaKG
import Derived.Test.YtpkgfkeekcgkcaaKE
/-  A region that draws its order, inside a fence: the operations that come before all others are walked once, in the order of the text; then the rest, one by one. Plain law over the model. -/
namespace Go.Proofs.Ytpkgfkeekcgkcaa
namespace Mix
variable {P : Program} {F : Fence} {n : Nat}
def isBuild : Op → Bool
  | .buildSlice .. => true
  | _ => false
def inOpB (op : Op) : Bool := inOp op || isBuild op
theorem wpIn_of_wpB {o : Oper} (hv : inOpB o.op = true) {a : Act} {w : World} {K K' : Act → World → Prop} {Q : Act → World → Prop} {Q' : Exit → Act → World → Prop} (hk : ∀ a w, K a w → K' a w) (h : o.wp P a w K (QN Q)) : o.wpIn F n P a w K' Q' := by
  rw [inOpB, Bool.or_eq_true] at hv
  rcases hv with hv | hv
  · exact wpIn_of_wp hv hk h
  · obtain ⟨dst, op, ty, pos, after, guard⟩ := o
    cases op <;> first | (cases hv; done) | skip
    case buildSlice t len parts =>
      refine ⟨fun f hf => (by cases hf), ?_⟩
      rw [Oper.semAt_eq _ _ _ (fun c e => (by cases e))]
      unfold Oper.wp at h
      cases hr : (execOp a.eval ⟨dst, .buildSlice t len parts, ty, pos, after, guard⟩).run P w with
      | ok m w' =>
        rw [hr] at h
        obtain ⟨u, rfl⟩ : ∃ u, m = .value u := by
          simp only [execOp] at hr
          rw [Sem.run_bind] at hr
          cases hs : (Instr.buildSlice t len (parts.map fun (i, x) => (i, a.eval x))).run P w with
          | ok u w1 =>
            rw [hs] at hr
            simp only [Result.andThen_ok, Sem.run_pure, Result.ok.injEq] at hr
            exact ⟨_, hr.1.symm⟩
          | halt x w1 => rw [hs] at hr; cases hr
        exact hk _ _ h
      | halt x w' =>
        rw [hr] at h
        cases x <;> first | exact h.elim | (simp only [Oper.upon] at h)
        all_goals exact h.elim
theorem inOpB_about {o : Oper} (h : inOpB o.op = true) (w : World) (ρ : Operand → Value) : o.about P w ρ = none := by
  obtain ⟨dst, op, ty, pos, after, guard⟩ := o
  cases op <;> first | rfl | cases h
/-- all of the first k come before each other one, by the edges -/
def cutB (ops : Array Oper) (k : Nat) : Bool :=
  edgesB ops && certB ops (Region.before ops) && (List.range ops.size).all (fun j => decide (j < k) || (List.range k).all fun i => ((Region.before ops).getD j 0).testBit i) &&
    (List.range k).all (fun i => match ops[i]? with
      | some o => inOpB o.op && (match o.guard with | none => true | some g => decide (g.1 < k))
      | none => false)
theorem wanted_app {l1 l2 : List Oper} {o : Oper} (h : (match o.guard with | none => true | some g => decide (g.1 < l1.length)) = true) (tmps : Array Value) : Region.wanted o (yielded (l1 ++ l2).toArray tmps) = Region.wanted o (yielded l1.toArray tmps) := by
  unfold Region.wanted
  cases hg : o.guard with
  | none => rfl
  | some g =>
    rw [hg] at h
    have h1 : g.1 < l1.length := of_decide_eq_true h
    simp only [yielded, List.getElem?_toArray, List.getElem?_append_left h1]
theorem split_any {l1 l2 : List Oper} {Q' : Exit → Act → World → Prop} (hc : cutB (l1 ++ l2).toArray l1.length = true) :
    ∀ (fuel : Nat) (ls : Array Bool) (a : Act) (w : World), ls.size = l1.length → ls.toList.count false = fuel →
      (∀ j o, l1[j]? = some o → ls.getD j true = true → ∀ e ∈ o.after, Region.binds .any e = true → ls.getD e.on true = true) →
      wpAny P .any l1.toArray (QN fun a w => wpAnyIn F n P .any (l1 ++ l2).toArray Q' l2.length (Array.replicate l1.length true ++ Array.replicate l2.length false) a w) fuel ls a w →
      wpAnyIn F n P .any (l1 ++ l2).toArray Q' (fuel + l2.length) (ls ++ Array.replicate l2.length false) a w := by
  simp only [cutB, Bool.and_eq_true] at hc
  obtain ⟨⟨⟨hE, hC⟩, hcut⟩, hin⟩ := hc
  have hin2 : ∀ (i : Nat) (o : Oper), l1[i]? = some o → inOpB o.op = true ∧ (match o.guard with | none => true | some g => decide (g.1 < l1.length)) = true := fun i o ho => by
    have hi : i < l1.length := (List.getElem?_eq_some_iff.1 ho).1
    have h1 := List.all_eq_true.1 hin i (List.mem_range.2 hi)
    rw [List.getElem?_toArray, List.getElem?_append_left hi, ho] at h1
    simpa using h1
  have happ : ∀ i, i < l1.length → (l1 ++ l2).toArray[i]? = l1.toArray[i]? := fun i hi => by rw [List.getElem?_toArray, List.getElem?_toArray, List.getElem?_append_left hi]
  intro fuel
  induction fuel with
  | zero =>
    intro ls a w hsz hct hdown h
    have hall : ls = Array.replicate l1.length true := by
      apply Array.ext'
      rw [Array.toList_replicate, List.eq_replicate_iff]
      refine ⟨by rw [Array.length_toList, hsz], fun b hb => ?_⟩
      cases b
      · exact absurd hb (List.count_eq_zero.1 hct)
      · rfl
    rw [Nat.zero_add, hall]
    exact h.2
  | succ fuel ih =>
    intro ls a w hsz hct hdown h
    have hsome : ∃ i, i < l1.length ∧ ls.getD i true = false := by
      have hm : false ∈ ls.toList := List.count_pos_iff.1 (by omega)
      obtain ⟨i, hi, he⟩ := List.mem_iff_getElem.1 hm
      rw [Array.length_toList] at hi
      exact ⟨i, by omega, by simp [hi]; simpa using he⟩
    have hget : ∀ i, i < l1.length → (ls ++ Array.replicate l2.length false).getD i true = ls.getD i true := fun i hi => by
      simp [hsz, hi, Array.getElem_append_left, show i < l1.length + l2.length by omega]
    have hget2 : ∀ i, i < l1.length → (ls ++ Array.replicate l2.length false).getD i false = ls.getD i false := fun i hi => by
      simp [hsz, hi, Array.getElem_append_left, show i < l1.length + l2.length by omega]
    have hgf : ∀ i, i < l1.length → ls.getD i false = ls.getD i true := fun i hi => by simp [show i < ls.size from by omega]
    have hreadyL : ∀ i, i < l1.length → (i ∈ Region.ready .any (l1 ++ l2).toArray (ls ++ Array.replicate l2.length false) ↔ i ∈ Region.ready .any l1.toArray ls) := fun i hi => by
      rw [mem_ready, mem_ready, hget i hi, happ i hi]
      refine and_congr_right fun _ => ?_
      refine exists_congr fun o => and_congr_right fun ho => forall_congr' fun e => forall_congr' fun he => forall_congr' fun hb => ?_
      have hlt := edgesB_spec hE ((happ i hi).trans ho) e he hb
      rw [hget2 e.on (by omega)]
    have hlow : ∀ j, j ∈ Region.ready .any (l1 ++ l2).toArray (ls ++ Array.replicate l2.length false) → j < l1.length := fun j hj => by
      obtain ⟨h0, o, ho, hdep⟩ := mem_ready.1 hj
      have hjs : j < (l1 ++ l2).toArray.size := (Array.getElem?_eq_some_iff.1 ho).1
      rcases Nat.lt_or_ge j l1.length with h1 | h1
      · exact h1
      · exfalso
        have h2 := List.all_eq_true.1 hcut j (List.mem_range.2 hjs)
        simp only [Bool.or_eq_true, decide_eq_true_eq] at h2
        have h3 := h2.resolve_left (by omega)
        obtain ⟨i, hi, hf⟩ := hsome
        have h4 := List.all_eq_true.1 h3 i (List.mem_range.2 hi)
        have hsz2 : (ls ++ Array.replicate l2.length false).size = l1.length + l2.length := by simp [hsz]
        have hos : (l1 ++ l2).toArray.size = l1.length + l2.length := by simp
        have hdown2 : ∀ j o, (l1 ++ l2).toArray[j]? = some o → (ls ++ Array.replicate l2.length false).getD j true = true → ∀ e ∈ o.after, Region.binds .any e = true → (ls ++ Array.replicate l2.length false).getD e.on true = true := fun j o ho hl e he hb => by
          have hj2 : j < l1.length + l2.length := by rw [← hos]; exact (Array.getElem?_eq_some_iff.1 ho).1
          rcases Nat.lt_or_ge j l1.length with h5 | h5
          · have hlt := edgesB_spec hE ho e he hb
            rw [hget j h5] at hl
            rw [hget e.on (by omega)]
            exact hdown j o (by rw [happ j h5] at ho; simpa using ho) hl e he hb
          · exfalso
            have : (ls ++ Array.replicate l2.length false).getD j true = false := by
              simp [hsz, hj2, Array.getElem_append_right (show ls.size ≤ j by omega)]
            rw [this] at hl; cases hl
        have h5 := cert_listed hE hC hdown2 (j + 1) j o (by omega) ho (fun e he hb => by
          have hh := hdep e he hb
          have hlt := edgesB_spec hE ho e he hb
          have hlt2 : e.on < (ls ++ Array.replicate l2.length false).size := by rw [hsz2]; omega
          rw [Array.getD_eq_getD_getElem?, Array.getElem?_eq_getElem hlt2] at hh ⊢
          exact hh) i (by rw [hos]; omega) h4
        rw [hget i hi, hf] at h5
        cases h5
    rw [show fuel + 1 + l2.length = (fuel + l2.length) + 1 by omega]
    refine ⟨fun hr => ?_, fun i hi => ?_⟩
    · exfalso
      have key : ∀ m i, i < m → i < l1.length → ls.getD i true = false → False := by
        intro m
        induction m with
        | zero => intro i h; exact absurd h (Nat.not_lt_zero _)
        | succ m ihm =>
          intro i him hil hf
          have hready : i ∈ Region.ready .any (l1 ++ l2).toArray (ls ++ Array.replicate l2.length false) := by
            obtain ⟨o, ho⟩ : ∃ o, (l1 ++ l2).toArray[i]? = some o := ⟨_, Array.getElem?_eq_getElem (by simp; omega)⟩
            refine mem_ready.2 ⟨by rw [hget i hil]; exact hf, o, ho, fun e he hb => ?_⟩
            have hlt := edgesB_spec hE ho e he hb
            rw [hget2 e.on (by omega), hgf e.on (by omega)]
            cases hl : ls.getD e.on true
            · exact (ihm e.on (by omega) (by omega) hl).elim
            · rfl
          rw [hr] at hready
          cases hready
      obtain ⟨i, hi, hf⟩ := hsome
      exact key (i + 1) i (by omega) hi hf
    · have hil := hlow i hi
      have hi1 := (hreadyL i hil).1 hi
      have h1 := h.2 i hi1
      obtain ⟨h0, o, ho, hdep⟩ := mem_ready.1 hi1
      have ho' : l1[i]? = some o := by simpa using ho
      obtain ⟨hv, hg⟩ := hin2 i o ho'
      have hset : (ls ++ Array.replicate l2.length false).setIfInBounds i true = ls.setIfInBounds i true ++ Array.replicate l2.length false := by
        apply Array.ext'
        simp only [Array.toList_setIfInBounds, Array.toList_append]
        rw [List.set_append_left _ _ (by rw [Array.length_toList]; omega)]
      have hih : ∀ a w, wpAny P .any l1.toArray (QN fun a w => wpAnyIn F n P .any (l1 ++ l2).toArray Q' l2.length (Array.replicate l1.length true ++ Array.replicate l2.length false) a w) fuel (ls.setIfInBounds i true) a w →
          wpAnyIn F n P .any (l1 ++ l2).toArray Q' (fuel + l2.length) ((ls ++ Array.replicate l2.length false).setIfInBounds i true) a w := fun a w hh => by
        rw [hset]
        refine ih _ a w (by rw [Array.size_setIfInBounds, hsz]) ?_ ?_ hh
        · rw [Array.toList_setIfInBounds]
          have hlt : i < ls.toList.length := by rw [Array.length_toList]; omega
          have hgi : ls.toList[i] = false := by
            rw [Array.getElem_toList]
            have h6 := h0
            simp [show i < ls.size from by omega] at h6
            exact h6
          have h7 : (ls.toList.set i true).count false + 1 = ls.toList.count false := by
            rw [List.count_set hlt, hgi]
            have : 0 < ls.toList.count false := List.count_pos_iff.2 (by rw [← hgi]; exact List.getElem_mem hlt)
            simp only [beq_self_eq_true, if_true]
            have e1 : (true == false) = false := rfl
            simp only [e1, Bool.false_eq_true, if_false]
            omega
          omega
        · intro j oj hoj hl e he hb
          have hjl : j < l1.length := (List.getElem?_eq_some_iff.1 hoj).1
          have hlt := edgesB_spec hE (i := j) (o := oj) (by rw [happ j hjl]; simpa using hoj) e he hb
          by_cases hji : j = i
          · subst hji
            cases Option.some.inj (hoj.symm.trans ho')
            have h8 := hdep e he hb
            rw [hgf e.on (by omega)] at h8
            have hne : j ≠ e.on := by omega
            simp only [Array.getD_eq_getD_getElem?, Array.getElem?_setIfInBounds_ne hne] at h8 ⊢
            exact h8
          · have hl2 : ls.getD j true = true := by
              simp only [Array.getD_eq_getD_getElem?, Array.getElem?_setIfInBounds_ne (Ne.symm hji)] at hl ⊢
              exact hl
            have h8 := hdown j oj hoj hl2 e he hb
            by_cases hie : i = e.on
            · rw [← hie, h0] at h8; cases h8
            · simp only [Array.getD_eq_getD_getElem?, Array.getElem?_setIfInBounds_ne hie] at h8 ⊢
              exact h8
      unfold wpOp at h1
      unfold wpOpIn
      rw [happ i hil]
      rw [ho] at h1 ⊢
      dsimp only at h1 ⊢
      rw [wanted_app hg]
      by_cases hw : Region.wanted o (yielded l1.toArray a.tmps) = true
      · rw [if_pos hw] at h1 ⊢
        rcases h1 with h1 | ⟨_, _, _, h2⟩
        · exact wpIn_of_wpB hv hih h1
        · exact h2.elim
      · rw [if_neg hw] at h1 ⊢
        exact ⟨fun f hf => (by rw [inOpB_about hv] at hf; cases hf), hih _ _ h1⟩
/-- **The law.** -/
theorem region_split_in {id : Nat} {Q' : Exit → Act → World → Prop} {a : Act} {w : World} {l1 l2 : List Oper} (cls : Nat → Cls) (hm : P.follows .mixedOrders = true) (hc : cutB (l1 ++ l2).toArray l1.length = true)
    (hB : mixB l1.toArray (List.range' 0 l1.length) cls = true)
    (h : GoodL P l1.toArray w cls (fun a w => wpAnyIn F n P .any (l1 ++ l2).toArray Q' l2.length (Array.replicate l1.length true ++ Array.replicate l2.length false) a w) 0 l1 a w) : (Code.region id (l1 ++ l2).toArray true).wpIn F n P Q' a w := by
  have hh := good_of_goodL l1 0 a w (fun j => by simp) h
  simp only [mixB, Bool.and_eq_true] at hB
  obtain ⟨⟨⟨⟨⟨hs, hE⟩, hC⟩, hp⟩, hr⟩, ho⟩ := hB
  have hlen : (List.range' 0 l1.length).length = l1.toArray.size := by simp
  have h9 := any_of_good (P := P) (W0 := w) (cls := cls) (Q' := QN fun a w => wpAnyIn F n P .any (l1 ++ l2).toArray Q' l2.length (Array.replicate l1.length true ++ Array.replicate l2.length false) a w) hs hE hC (List.range' 0 l1.length).length (List.range' 0 l1.length) (Array.replicate l1.toArray.size false) a { w with drawn := w.drawn + 1 } rfl (fun _ => ⟨Later.draw w, rfl⟩) (by simp) (pairsB_spec hp)
    (fun i => by
      rw [List.all_eq_true] at ho hr
      constructor
      · intro h
        have hlt := of_decide_eq_true (ho i h)
        exact ⟨hlt, by simp at hlt; simp [hlt]⟩
      · intro h
        have := hr i (List.mem_range.2 h.1)
        simpa using this)
    (fun j o hj hl => by
      have hlt : j < l1.toArray.size := (Array.getElem?_eq_some_iff.1 hj).1
      simp at hlt
      simp [hlt] at hl)
    (hh.later (Later.draw w))
  rw [hlen] at h9
  have h10 := split_any (l2 := l2) hc l1.toArray.size _ _ _ (by simp) (by simp) (fun j o hj hl => by
    have hlt : j < l1.length := (List.getElem?_eq_some_iff.1 hj).1
    simp [hlt] at hl) h9
  refine wpIn_region_any hm ?_
  have e1 : l1.toArray.size + l2.length = (l1 ++ l2).toArray.size := by simp
  have e2 : (Array.replicate l1.toArray.size false ++ Array.replicate l2.length false) = Array.replicate (l1 ++ l2).toArray.size false := by
    apply Array.ext'
    simp
  rw [e1, e2] at h10
  exact h10
theorem region_split_at {id : Nat} {Q' : Exit → Act → World → Prop} {a : Act} {w : World} {l : List Oper} (k r : Nat) (cls : Nat → Cls) (hk : (l.take k).length = k) (hr : (l.drop k).length = r) (hm : P.follows .mixedOrders = true) (hc : cutB l.toArray k = true)
    (hB : mixB (l.take k).toArray (List.range' 0 k) cls = true)
    (h : GoodL P (l.take k).toArray w cls (fun a w => wpAnyIn F n P .any l.toArray Q' r (Array.replicate k true ++ Array.replicate r false) a w) 0 (l.take k) a w) : (Code.region id l.toArray true).wpIn F n P Q' a w := by
  have h2 := region_split_in (F := F) (n := n) (id := id) (Q' := Q') (a := a) (w := w) (l1 := l.take k) (l2 := l.drop k) cls hm (by rw [List.take_append_drop, hk]; exact hc) (by rw [hk]; exact hB) (by rw [List.take_append_drop, hk, hr]; exact h)
  rwa [List.take_append_drop] at h2
theorem wpOpIn_some {ops : Array Oper} {Q : Exit → Act → World → Prop} {i : Nat} {o : Oper} {K : Act → World → Prop} {a : Act} {w : World} (ho : ops[i]? = some o) (hw : Region.wanted o (yielded ops a.tmps) = true)
    (h : ∀ K' : Act → World → Prop, (∀ a' w', K a' w' → K' a' w') → o.wpIn F n P a w K' Q) : wpOpIn F n P ops Q i K a w := by
  unfold wpOpIn
  rw [ho]
  dsimp only
  rw [if_pos hw]
  exact h K fun _ _ h => h
theorem wpOpIn_not {ops : Array Oper} {Q : Exit → Act → World → Prop} {i : Nat} {o : Oper} {K : Act → World → Prop} {a : Act} {w : World} (ho : ops[i]? = some o) (hw : Region.wanted o (yielded ops a.tmps) = false)
    (hf : ∀ f, o.about P w a.eval = some f → F.fn f) (h : K (a.put o.dst undef) w) : wpOpIn F n P ops Q i K a w := by
  unfold wpOpIn
  rw [ho]
  dsimp only
  rw [if_neg (by rw [hw]; simp)]
  exact ⟨hf, h⟩
end Mix
end Go.Proofs.Ytpkgfkeekcgkcaa

/-  The program: compare, before, the iterator over the matches. -/
namespace Go.Proofs.Ytpkgfkeekcgkcaa
open Go.RowKit Go.Shelf
open Lcs (lc ch)
attribute [local go_sem] Oper.semAt_some
/-- what a round keeps: all that lay below n0, and a cell -/
def KpM (n0 c1 : Nat) (W W' : World) : Prop := Below n0 W W' ∧ W'.cell? ⟨c1, 0, none⟩ = W.cell? ⟨c1, 0, none⟩
theorem KpM.t {n0 c1 : Nat} {X Y Z : World} (h : KpM n0 c1 X Y) (k : KpM n0 c1 Y Z) : KpM n0 c1 X Z := ⟨h.1.trans k.1, k.2.trans h.2⟩
theorem KpM.b {n0 c1 n : Nat} (h0 : n0 ≤ n) (h1 : c1 < n) (W : World) (l : Nat) (o o' : Obj) (hl : n ≤ l) (hk' : W.heap[l]? = some o) (_ : o.isCells = false) (_ : o.isWalk = false) : KpM n0 c1 W (W.putObj l o') := by
  have hk : ∀ c, c < n → (W.putObj l o').heap[c]? = W.heap[c]? := fun c hc => World.putObj_heap_other (by omega)
  refine ⟨(Below.refl n0 W).grown (grownBy_putObj' W l o') (by have := (Array.getElem?_eq_some_iff.1 hk').1; omega) (fun k e => by cases e; omega), World.cell?_of_block (hk _ h1)⟩
theorem KpM.of {n0 c1 : Nat} {W : World} (x : Later W) (h0 : n0 ≤ W.heap.size) (h1 : c1 < W.heap.size) : KpM n0 c1 W x.w := ⟨x.le.mono h0, x.cell h1⟩
/-- a match -/
abbrev Mt (a b : List UInt8) : Type := { q : Nat × Nat // q.1 < a.length ∧ q.2 < b.length ∧ ch a q.1 = ch b q.2 }
def mtI {a b : List UInt8} (x : Mt a b) : Int × Int := ((x.1.1 : Int), (x.1.2 : Int))
def mtE {a b : List UInt8} (x : Mt a b) : Array Value := #[.agg #[.int .i64 (x.1.1 : Int), .int .i64 (x.1.2 : Int)]]
theorem or_bool {e : Ending} {A B : Prop} (h : (e = .returned (.bool true) ∧ A) ∨ (e = .returned (.bool false) ∧ B)) : ∃ r, e = .returned (.bool r) ∧ (r = true → A) ∧ (r = false → B) := by
  rcases h with ⟨h1, h2⟩ | ⟨h1, h2⟩
  · exact ⟨true, h1, fun _ => h2, fun h => (by cases h)⟩
  · exact ⟨false, h1, fun h => (by cases h), fun _ => h2⟩
set_option maxRecDepth 100000 in
set_option maxHeartbeats 8000000 in
theorem matches1_in (m l c1 p lo mp : Nat) (a b : List UInt8) (M : PM) (ha : a.length ≤ 12) (hb : b.length ≤ 12) (Wd : World) (hD : Pair lo Wd p mp a b M)
    (J Jx : List (Mt a b) → World → Prop) (W : World) (hW : Below Wd.heap.size Wd W) (hJ : AbidesFrom W.heap.size J)
    (hY : ∀ pre x W, J pre W → pre.length < 144 → YieldAt Fence.wide (m - 1) Try.prog l (mtE x) W fun e W' =>
      (e = .returned (.bool true) ∧ J (pre ++ [x]) W' ∧ KpM Wd.heap.size c1 W W') ∨ (e = .returned (.bool false) ∧ Jx (pre ++ [x]) W'))
    (h1 : W.cell? ⟨c1, 0, none⟩ = some (.pointer (some ⟨p, 0, none⟩))) (h0 : J [] W) :
    CallsIn Fence.wide m Try.prog 93 #[.func (.yield l) #[] #[], .pointer (some ⟨c1, 0, none⟩)] W fun e W' => (∃ v, e = .returned v) ∧
      ((∃ ys, ys.map mtI = matchL a b ∧ J ys W') ∨ (∃ pre, True ∧ Jx pre W')) := by
  have l1 : c1 < W.heap.size := World.block_lt_of_cell? W _ h1
  have HDk := Lib.hid hD
  obtain ⟨n, hn⟩ : ∃ n, a.length = n := ⟨_, rfl⟩
  obtain ⟨m0, hm0⟩ : ∃ n, b.length = n := ⟨_, rfl⟩
  have ha12 : n ≤ 12 := by omega
  have hb12 : m0 ≤ 12 := by omega
  have HN := Lib.hid hn
  have HM := Lib.hid hm0
  have hsa : (⟨a.toArray⟩ : ByteArray).size = n := by rw [str_size]; exact hn
  have hsb : (⟨b.toArray⟩ : ByteArray).size = m0 := by rw [str_size]; exact hm0
  clear hn hm0 ha hb
  have hsz0 : Wd.heap.size ≤ W.heap.size := hW.size
  have q0 := ((Later.mk W hW).cell hD.blk.lt).trans (hD.blk.cell (k := 0) rfl)
  have ql := Nat.lt_of_lt_of_le hD.blk.lt hsz0
  dsimp only at q0
  clear hD
  refine callsIn_of_wp Try.func93 rfl trivial ?_ rfl
  simp only [Try.ntmps93, List.size_toArray, List.length_cons, List.length_nil, Nat.reduceAdd, Nat.reduceSub, Array.replicate_succ, Array.replicate_zero, List.push_toArray, List.append_toArray, List.nil_append, List.cons_append]
  gi_wp2
  clear q0 ql
  gi_loopw [3, 10] (fun _ i wr => ∃ (k : Nat) (pre : List (Mt a b)), k ≤ n ∧ i = .int .i64 k ∧ Hid (pre.map mtI = mtL a b k) ∧ J pre wr ∧ KpM Wd.heap.size c1 W wr) (fun _ i _ => n - (intOf i).toNat)
  case atStart => exact ⟨0, [], Nat.zero_le _, rfl, rfl, h0, KpM.of (Later.self W) hsz0 l1⟩
  case round =>
    clear h0
    obtain ⟨k, pre, hk, rfl, hpre, hJr, hK⟩ := hrel
    by_cases hlt : k < n
    · have g1 := hK.2.trans h1
      have lr := hK.1.size
      have gl := Nat.lt_of_lt_of_le l1 lr
      obtain ⟨xr, hxr⟩ : ∃ x : Later Wd, x.w = wr := ⟨⟨wr, hW.trans hK.1⟩, rfl⟩
      have q1 := (xr.cell HDk.out.blk.lt).trans (HDk.out.blk.cell (k := 1) rfl)
      have ql := Nat.lt_of_lt_of_le HDk.out.blk.lt xr.size
      rw [hxr] at q1 ql
      clear hxr xr
      gi_wp2
      clear g1 q1 ql gl
      gi_loopw [4, 18] (fun _ i wr => ∃ (q : Nat) (pre : List (Mt a b)), q ≤ m0 ∧ i = .int .i64 q ∧ Hid (pre.map mtI = mtL a b k ++ mtR a b k q) ∧ J pre wr ∧ KpM Wd.heap.size c1 W wr) (fun _ i _ => m0 - (intOf i).toNat)
      case atStart => exact ⟨0, pre, Nat.zero_le _, rfl, by rw [hpre.out]; unfold Hid; simp [mtR], hJr, hK⟩
      case round =>
        clear hJr hK hpre pre
        obtain ⟨q, pre, hq, rfl, hpre, hJr, hK⟩ := hrel
        by_cases hql : q < m0
        · have g1 := hK.2.trans h1
          have lr := hK.1.size
          have gl := Nat.lt_of_lt_of_le l1 lr
          obtain ⟨xr, hxr⟩ : ∃ x : Later Wd, x.w = wr := ⟨⟨wr, hW.trans hK.1⟩, rfl⟩
          have q0 := (xr.cell HDk.out.blk.lt).trans (HDk.out.blk.cell (k := 0) rfl)
          have q1 := (xr.cell HDk.out.blk.lt).trans (HDk.out.blk.cell (k := 1) rfl)
          have ql := Nat.lt_of_lt_of_le HDk.out.blk.lt xr.size
          rw [hxr] at q0 q1 ql
          clear hxr xr
          have hka : k < a.length := by rw [HN.out]; exact hlt
          have hqb : q < b.length := by rw [HM.out]; exact hql
          have hia := fun w => run_byte a hka w
          have hib := fun w => run_byte b hqb w
          have hlen : pre.length < 144 := by
            have h1 := congrArg List.length hpre.out
            rw [List.length_map, List.length_append] at h1
            have h2 := mtL_len a b k
            have h3 := mtR_len a b k q
            rw [HM.out] at h2
            have h4 := Nat.mul_le_mul (show k ≤ 11 by omega) hb12
            omega
          have hsn := mtR_succ a b k q
          by_cases hc : ch a k = ch b q
          · have hcb : (((bt a k).toNat : Int) == ((bt b q).toNat : Int)) = true := by rw [bt_ch, bt_ch, hc]; simp
            have HS2 := Lib.hid (show mtR a b k (q + 1) = mtR a b k q ++ [((k : Int), (q : Int))] by rw [hsn, if_pos hc])
            clear hsn
            gi_wp2
            refine Mix.region_split_at 18 3 (Mix.kinds [] [] []) rfl rfl (by kernel_rfl) (by kernel_rfl) (by kernel_rfl) ?_
            simp only [List.take_succ_cons, List.take_zero]
            repeat ((with_reducible refine Mix.atCons ?_); first | refine Mix.skipU (by rfl) rfl (by rfl) ?_ | (refine Mix.val rfl rfl (by rfl) (fun K hK => ?_); go_big_quiet_op; refine hK _ ?_; clear hK K) | (refine Mix.skip (by rfl) ?_; go_frame))
            refine Mix.done (fun x0 => ?_)
            refine wpAnyIn_all (rs := [18]) (by kernel_rfl) (by simp) (fun i hi => ?_)
            obtain rfl : i = 18 := by simpa using hi
            clear hi
            refine Mix.wpOpIn_some rfl (by rfl) (fun Kc hKc => ?_)
            have hJy := hJ _ _ _ _ hJr x0.grown (fun _ h => nomatch h)
            have hKy := hK.t (KpM.of x0 (Nat.le_trans hsz0 lr) gl)
            obtain ⟨fn, tmps, assign, body, hy, hR⟩ := hY pre ⟨(k, q), hka, hqb, hc⟩ x0.w hJy hlen
            dsimp only [mtE] at hy
            have HST := Lib.hid (show (pre ++ [(⟨(k, q), hka, hqb, hc⟩ : Mt a b)]).map mtI = mtL a b k ++ mtR a b k (q + 1) by rw [List.map_append, hpre.out, HS2.out, List.append_assoc]; rfl)
            clear hJr hK
            gi_wp2_with fail
            refine ⟨(fun h => absurd h (by decide)), hR.mono ?_⟩
            rintro e W3 (⟨rfl, hJ3, hk3⟩ | ⟨rfl, hJx3⟩)
            · refine hKc _ _ ?_
              clear hKc Kc
              refine wpAnyIn_all (rs := [19]) (by kernel_rfl) (by simp) (fun i hi => ?_)
              obtain rfl : i = 19 := by simpa using hi
              clear hi
              refine Mix.wpOpIn_some rfl (by rfl) (fun Kc hKc => ?_)
              gi_wp2_with fail
              try clear hKc Kc
              refine wpAnyIn_all (rs := [20]) (by kernel_rfl) (by simp) (fun i hi => ?_)
              obtain rfl : i = 20 := by simpa using hi
              clear hi
              refine Mix.wpOpIn_some rfl (by rfl) (fun Kc hKc => ?_)
              gi_wp2_with fail
              try clear hKc Kc
              refine wpAnyIn_done (by kernel_rfl) ?_ _
              gi_wp2
              go_roundw
              case rel => exact ⟨q + 1, _, by omega, by go_num, HST, hJ3, hKy.t hk3⟩
              case measure => simp [intOf] <;> omega
            · refine hKc _ _ ?_
              clear hKc Kc
              refine wpAnyIn_all (rs := [19]) (by kernel_rfl) (by simp) (fun i hi => ?_)
              obtain rfl : i = 19 := by simpa using hi
              clear hi
              refine Mix.wpOpIn_some rfl (by rfl) (fun Kc hKc => ?_)
              gi_wp2_with fail
              try clear hKc Kc
              refine wpAnyIn_all (rs := [20]) (by kernel_rfl) (by simp) (fun i hi => ?_)
              obtain rfl : i = 20 := by simpa using hi
              clear hi
              refine Mix.wpOpIn_some rfl (by rfl) (fun Kc hKc => ?_)
              gi_wp2_with fail
              try clear hKc Kc
              refine wpAnyIn_done (by kernel_rfl) ?_ _
              gi_wp2
              refine bodyPost_ret (results_none rfl _ _ _) rfl ?_
              exact ⟨⟨_, rfl⟩, .inr ⟨_, trivial, hJx3⟩⟩
          · have hcb : (((bt a k).toNat : Int) == ((bt b q).toNat : Int)) = false := by rw [bt_ch, bt_ch]; simp; exact fun e => hc (UInt8.toNat_inj.1 (by exact_mod_cast e))
            have HS2 := Lib.hid (show mtR a b k (q + 1) = mtR a b k q by rw [hsn, if_neg hc, List.append_nil])
            clear hsn
            gi_wp2
            refine Mix.region_split_at 18 3 (Mix.kinds [] [] []) rfl rfl (by kernel_rfl) (by kernel_rfl) (by kernel_rfl) ?_
            simp only [List.take_succ_cons, List.take_zero]
            repeat ((with_reducible refine Mix.atCons ?_); first | refine Mix.skipU (by rfl) rfl (by rfl) ?_ | (refine Mix.val rfl rfl (by rfl) (fun K hK => ?_); go_big_quiet_op; refine hK _ ?_; clear hK K) | (refine Mix.skip (by rfl) ?_; go_frame))
            refine Mix.done (fun x0 => ?_)
            have hJy := hJ _ _ _ _ hJr x0.grown (fun _ h => nomatch h)
            have hKy := hK.t (KpM.of x0 (Nat.le_trans hsz0 lr) gl)
            refine wpAnyIn_all (rs := [18]) (by kernel_rfl) (by simp) (fun i hi => ?_)
            obtain rfl : i = 18 := by simpa using hi
            clear hi
            refine Mix.wpOpIn_not rfl (by rfl) (fun _ _ => trivial) ?_
            try go_frame
            refine wpAnyIn_all (rs := [19]) (by kernel_rfl) (by simp) (fun i hi => ?_)
            obtain rfl : i = 19 := by simpa using hi
            clear hi
            refine Mix.wpOpIn_not rfl (by rfl) (fun _ _ => trivial) ?_
            try go_frame
            refine wpAnyIn_all (rs := [20]) (by kernel_rfl) (by simp) (fun i hi => ?_)
            obtain rfl : i = 20 := by simpa using hi
            clear hi
            refine Mix.wpOpIn_some rfl (by rfl) (fun Kc hKc => ?_)
            gi_wp2_with fail
            try clear hKc Kc
            refine wpAnyIn_done (by kernel_rfl) ?_ _
            gi_wp2
            go_roundw
            case rel => exact ⟨q + 1, pre, by omega, by go_num, by rw [hpre.out, HS2.out]; exact Lib.hid rfl, hJy, hKy⟩
            case measure => simp [intOf] <;> omega
        · obtain rfl : q = m0 := by omega
          have HS3 := Lib.hid (show mtL a b (k + 1) = mtL a b k ++ mtR a b k q by rw [mtL_succ, HM.out])
          gi_wp2
          go_roundw
          case rel => exact ⟨k + 1, pre, by omega, by go_num, by rw [hpre.out, HS3.out]; exact Lib.hid rfl, hJr, hK⟩
          case measure => simp [intOf] <;> omega
    · obtain rfl : n = k := by omega
      gi_wp2
      go_end0
      exact ⟨⟨_, rfl⟩, .inl ⟨pre, by rw [hpre.out, matchL, HN.out], hJr⟩⟩

end Go.Proofs.Ytpkgfkeekcgkcaa

/-  The program: compare, before, matches, most. -/
namespace Go.Proofs.Ytpkgfkeekcgkcaa
open Go.RowKit Go.Shelf
open Lcs (lc ch few len)
attribute [local go_sem] Oper.semAt_some
set_option maxHeartbeats 1000000 in
theorem matches_calls (p : Nat) (W : World) :
    Calls Try.prog 77 #[.pointer (some ⟨p, 0, none⟩)] W fun e W' => e = .returned (.func (.func 93) #[] #[.pointer (some ⟨W.heap.size, 0, none⟩)]) ∧ W' = W.alloc (.cells #[.pointer (some ⟨p, 0, none⟩)] 95) := by
  go_enter Try.func77, Try.ntmps77
  go_wp2
  go_ret
  exact ⟨rfl, rfl⟩
theorem matches_stops (m c1 p lo mp : Nat) (a b : List UInt8) (M : PM) (ha : a.length ≤ 12) (hb : b.length ≤ 12) (Wd : World) (hD : Pair lo Wd p mp a b M) (W0 : World) (hW0 : Below Wd.heap.size Wd W0) (h1 : W0.cell? ⟨c1, 0, none⟩ = some (.pointer (some ⟨p, 0, none⟩))) :
    SeqStopsK Fence.wide m Try.prog 93 #[.pointer (some ⟨c1, 0, none⟩)] (fun x : Mt a b => mtE x) (KpM Wd.heap.size c1) (fun ys => ys.map mtI = matchL a b) (fun _ => True) 144 W0 := fun l J Jx W hW hJ _ hY h0 =>
  matches1_in m l c1 p lo mp a b M ha hb Wd hD J Jx W (hW0.trans (hW.mono hW0.size)) hJ hY ((hW.cell (p := ⟨c1, 0, none⟩) (World.block_lt_of_cell? W0 _ h1)).trans h1) h0
set_option maxHeartbeats 1000000 in
theorem before_calls (i1 j1 i2 j2 : Int) (W : World) :
    Calls Try.prog 75 #[.agg #[.int .i64 i1, .int .i64 j1], .agg #[.int .i64 i2, .int .i64 j2]] W (Gives (.bool (befP (i1, j1) (i2, j2))) W) := by
  have HB := Lib.hid (show befP (i1, j1) (i2, j2) = (decide (i1 < i2) && decide (j1 < j2)) from rfl)
  by_cases h1 : i1 < i2
  · by_cases h2 : j1 < j2
    · have d1 : decide (i1 < i2) = true := decide_eq_true h1
      have d2 : decide (j1 < j2) = true := decide_eq_true h2
      have HR := Lib.hid (show befP (i1, j1) (i2, j2) = true by rw [HB.out, d1, d2]; rfl)
      clear h1 h2
      go_enter Try.func75, Try.ntmps75
      go_wp2
      go_ret
      exact ⟨ret_bool HR.out.symm, (Later.new _ _).step (Later.new _ _), rfl⟩
    · have d1 : decide (i1 < i2) = true := decide_eq_true h1
      have d2 : decide (j1 < j2) = false := decide_eq_false h2
      have HR := Lib.hid (show befP (i1, j1) (i2, j2) = false by rw [HB.out, d1, d2]; rfl)
      clear h1 h2
      go_enter Try.func75, Try.ntmps75
      go_wp2
      go_ret
      exact ⟨ret_bool HR.out.symm, (Later.new _ _).step (Later.new _ _), rfl⟩
  · have d1 : decide (i1 < i2) = false := decide_eq_false h1
    have HR := Lib.hid (show befP (i1, j1) (i2, j2) = false by rw [HB.out, d1]; rfl)
    clear h1
    go_enter Try.func75, Try.ntmps75
    go_wp2
    go_ret
    exact ⟨ret_bool HR.out.symm, (Later.new _ _).step (Later.new _ _), rfl⟩
set_option maxHeartbeats 1000000 in
theorem compare_err (a b : List UInt8) (W : World) (h : txtsE a b ≠ 0) :
    Calls Try.prog 68 #[.string ⟨a.toArray⟩, .string ⟨b.toArray⟩] W fun e w' => e = .returned (.tuple #[.pointer none, .int .i64 (txtsE a b)]) ∧ w' = W := by
  by_cases h1 : 12 < a.length
  · have HE := Lib.hid (show txtsE a b = 7 by rw [txtsE, txtE, if_pos h1]; rfl)
    have HA := Lib.hid (show decide (12 < a.length) = true from decide_eq_true h1)
    clear h h1
    go_enter Try.func68, Try.ntmps68
    go_wp2_with fail
    refine (plong_calls a _).mono ?_
    rintro e w' ⟨rfl, hw⟩
    rw [hw, HA.out]
    clear hw w'
    go_wp2
    go_ret2
    exact ⟨by rw [HE.out]; rfl, rfl⟩
  · have h2 : 12 < b.length := by
      by_cases h2 : 12 < b.length
      · exact h2
      · exact absurd (by rw [txtsE, txtE, if_neg h1, txtE, if_neg h2]; rfl) h
    have HE := Lib.hid (show txtsE a b = 7 by rw [txtsE, txtE, if_neg h1, txtE, if_pos h2]; rfl)
    have HA := Lib.hid (show decide (12 < a.length) = false from decide_eq_false h1)
    have HB := Lib.hid (show decide (12 < b.length) = true from decide_eq_true h2)
    clear h h1 h2
    go_enter Try.func68, Try.ntmps68
    go_wp2_with fail
    refine (plong_calls a _).mono ?_
    rintro e w' ⟨rfl, hw⟩
    rw [hw, HA.out]
    clear hw w'
    go_wp2_with fail
    refine (plong_calls b _).mono ?_
    rintro e w' ⟨rfl, hw⟩
    rw [hw, HB.out]
    clear hw w'
    go_wp2
    go_ret2
    exact ⟨by rw [HE.out]; rfl, rfl⟩
def PairE (a b : List UInt8) (W : World) (e : Ending) (w' : World) : Prop := ∃ p m M, ∃ x : Later W, e = .returned (.tuple #[.pointer (some ⟨p, 0, none⟩), .int .i64 0]) ∧ w' = x.w ∧ Pair W.heap.size x.w p m a b M ∧ ∀ k, Tb.get M k = labO a b a.length 0 k
set_option maxHeartbeats 1000000 in
theorem compare_ok (a b : List UInt8) (W : World) (h : txtsE a b = 0) :
    Calls Try.prog 68 #[.string ⟨a.toArray⟩, .string ⟨b.toArray⟩] W (PairE a b W) := by
  obtain ⟨h1, h2⟩ := txts_ok h
  have HA := Lib.hid (show decide (12 < a.length) = false from decide_eq_false (by omega))
  have HB := Lib.hid (show decide (12 < b.length) = false from decide_eq_false (by omega))
  have H1 := Lib.hid h1
  have H2 := Lib.hid h2
  clear h h1 h2
  go_enter Try.func68, Try.ntmps68
  go_wp2_with fail
  refine (plong_calls a _).mono ?_
  rintro e w' ⟨rfl, hw⟩
  rw [hw, HA.out]
  clear hw w'
  go_wp2_with fail
  refine (plong_calls b _).mono ?_
  rintro e w' ⟨rfl, hw⟩
  rw [hw, HB.out]
  clear hw w'
  go_wp2_with fail
  refine (newPair_calls a b H1.out H2.out _).mono ?_
  rintro e w' ⟨p, m, M, x, rfl, rfl, hP, hM⟩
  go_wp2
  go_ret2
  exact ⟨p, m, M, x, rfl, rfl, hP, hM⟩
end Go.Proofs.Ytpkgfkeekcgkcaa

/-  The program: most. -/
namespace Go.Proofs.Ytpkgfkeekcgkcaa
open Go.RowKit Go.Shelf
open Lcs (lc ch few len)
attribute [local go_sem] Oper.semAt_some
/-- the marks that ranges over a function leave -/
def mark (D : Nat) : Deferred := { target := .collected D, args := #[] }
theorem leaves_marks {F : Fence} {n : Nat} {P : Program} {fn : Func} {tmps : Array Value} {R : Ending → World → Prop} {u : FrameMode} (hu : u ≠ .run) (Φ : World → Prop) (lo : Nat)
    (hΦ : ∀ U D, lo ≤ D → U.heap[D]? = some (.deferred (some [])) → Φ U → Φ (U.putObj D (.deferred none))) (hfin : ∀ U, Φ U → LeavesInM F n P fn tmps R [] u U) :
    ∀ (Ds : List Nat) (U : World), Ds.Nodup → (∀ D ∈ Ds, lo ≤ D ∧ U.heap[D]? = some (.deferred (some []))) → Φ U → LeavesInM F n P fn tmps R (Ds.map mark) u U
  | [], U, _, _, h => hfin U h
  | D :: Ds, U, hnd, hd, h => by
    obtain ⟨h1, h2⟩ := List.nodup_cons.1 hnd
    refine ⟨hu, .inl ⟨D, _, rfl, run_takeDeferred (hd D (by simp)).2, ?_⟩⟩
    refine leaves_marks hu Φ lo hΦ hfin Ds _ h2 (fun E hE => ⟨(hd E (by simp [hE])).1, ?_⟩) (hΦ U D (hd D (by simp)).1 (hd D (by simp)).2 h)
    rw [World.putObj_heap_other (fun e => h1 (by rw [← e]; exact hE))]
    exact (hd E (by simp [hE])).2
/-- the greatest label of some matches -/
def mxL (a b : List UInt8) : List (Int × Int) → Nat
  | [] => 0
  | p :: l => max (lc a b p.1.toNat p.2.toNat + 1) (mxL a b l)
def mxA (a b : List UInt8) {x y : List UInt8} : List (Mt x y) → Nat
  | l => mxL a b ((l.map mtI).reverse)
theorem mxA_snoc (a b : List UInt8) {x y : List UInt8} (l : List (Mt x y)) (q : Mt x y) : mxA a b (l ++ [q]) = max (lc a b q.1.1 q.1.2 + 1) (mxA a b l) := by
  rw [mxA, List.map_append, List.reverse_append]
  simp only [List.map_cons, List.map_nil, List.reverse_cons, List.reverse_nil, List.nil_append, List.cons_append, mxL]
  rw [mxA]
  simp [mtI]
theorem mxL_mem (a b : List UInt8) : ∀ (l : List (Int × Int)), (∀ p ∈ l, lc a b p.1.toNat p.2.toNat + 1 ≤ mxL a b l) ∧ (mxL a b l = 0 ∨ ∃ p ∈ l, mxL a b l = lc a b p.1.toNat p.2.toNat + 1)
  | [] => ⟨fun p hp => absurd hp (by simp), .inl rfl⟩
  | q :: l => by
    obtain ⟨h1, h2⟩ := mxL_mem a b l
    refine ⟨fun p hp => ?_, .inr ?_⟩
    · rcases List.mem_cons.1 hp with rfl | hp
      · exact Nat.le_max_left _ _
      · exact Nat.le_trans (h1 p hp) (Nat.le_max_right _ _)
    · rcases Nat.le_total (lc a b q.1.toNat q.2.toNat + 1) (mxL a b l) with h | h
      · rcases h2 with h2 | ⟨p, hp, h2⟩
        · omega
        · exact ⟨p, by simp [hp], by rw [mxL, Nat.max_eq_right h, h2]⟩
      · exact ⟨q, by simp, by rw [mxL, Nat.max_eq_left h]⟩
theorem mtR_mem {a b : List UInt8} {i j : Nat} {p : Int × Int} : p ∈ mtR a b i j ↔ ∃ y : Nat, p = ((i : Int), (y : Int)) ∧ y < j ∧ ch a i = ch b y := by
  simp only [mtR, List.mem_map, List.mem_filter, List.mem_range, decide_eq_true_eq]
  constructor
  · rintro ⟨y, ⟨h1, h2⟩, rfl⟩; exact ⟨y, rfl, h1, h2⟩
  · rintro ⟨y, rfl, h1, h2⟩; exact ⟨y, ⟨h1, h2⟩, rfl⟩
theorem matchL_mem {a b : List UInt8} {p : Int × Int} : p ∈ matchL a b ↔ ∃ x y : Nat, p = ((x : Int), (y : Int)) ∧ x < a.length ∧ y < b.length ∧ ch a x = ch b y := by
  rw [matchL, mtL, List.mem_flatMap]
  constructor
  · rintro ⟨x, hx, hp⟩
    obtain ⟨y, rfl, h1, h2⟩ := mtR_mem.1 hp
    exact ⟨x, y, rfl, List.mem_range.1 hx, h1, h2⟩
  · rintro ⟨x, y, rfl, h1, h2, h3⟩
    exact ⟨x, List.mem_range.2 h1, mtR_mem.2 ⟨y, rfl, h2, h3⟩⟩
theorem lc_top (a b : List UInt8) : ∀ i j, 0 < lc a b i j → ∃ x y, x < i ∧ y < j ∧ ch a x = ch b y ∧ lc a b i j = lc a b x y + 1
  | 0, j, h => by rw [Lcs.zero_lc] at h; omega
  | i + 1, 0, h => by rw [Lcs.lc_zero] at h; omega
  | i + 1, j + 1, h => by
    rw [lc] at h ⊢
    by_cases e : ch a i = ch b j
    · rw [if_pos e] at h ⊢
      exact ⟨i, j, by omega, by omega, e, rfl⟩
    · rw [if_neg e] at h ⊢
      rcases Nat.le_total (lc a b (i + 1) j) (lc a b i (j + 1)) with h1 | h1
      · rw [Nat.max_eq_right h1] at h ⊢
        obtain ⟨x, y, h2, h3, h4, h5⟩ := lc_top a b i (j + 1) h
        exact ⟨x, y, by omega, h3, h4, h5⟩
      · rw [Nat.max_eq_left h1] at h ⊢
        obtain ⟨x, y, h2, h3, h4, h5⟩ := lc_top a b (i + 1) j h
        exact ⟨x, y, h2, by omega, h4, h5⟩
theorem lc_match {a b : List UInt8} {i j : Nat} (h : ch a i = ch b j) : lc a b (i + 1) (j + 1) = lc a b i j + 1 := by rw [lc, if_pos h]
theorem mxA_all {a b : List UInt8} {ys : List (Mt a b)} (h : ys.map mtI = matchL a b) : mxA a b ys = len a b := by
  have hm : ∀ p, p ∈ (ys.map mtI).reverse ↔ p ∈ matchL a b := fun p => by rw [List.mem_reverse, h]
  obtain ⟨h1, h2⟩ := mxL_mem a b (ys.map mtI).reverse
  rw [mxA]
  refine Nat.le_antisymm ?_ ?_
  · rcases h2 with h2 | ⟨p, hp, h2⟩
    · rw [h2]; exact Nat.zero_le _
    · obtain ⟨x, y, rfl, h3, h4, h5⟩ := matchL_mem.1 ((hm p).1 hp)
      rw [h2, Int.toNat_natCast, Int.toNat_natCast, ← lc_match h5]
      exact Lcs.lc_mono a b (by omega) (by omega)
  · rcases Nat.eq_zero_or_pos (len a b) with h3 | h3
    · rw [h3]; exact Nat.zero_le _
    · obtain ⟨x, y, h4, h5, h6, h7⟩ := lc_top a b a.length b.length h3
      have := h1 _ ((hm _).2 (matchL_mem.2 ⟨x, y, rfl, h4, h5, h6⟩))
      rw [Int.toNat_natCast, Int.toNat_natCast, ← h7] at this
      exact this
/-- what stands while the greatest label is sought -/
structure Mo (W U : World) (c1 nb p v : Nat) : Prop where
  bel : Below W.heap.size W U
  box : Lin U c1 95 [.pointer (some ⟨p, 0, none⟩)]
  num : Lin U nb 3 [.int .i64 v]
  lo1 : W.heap.size ≤ c1
  lo2 : W.heap.size ≤ nb
section
variable {W U : World} {c1 nb p v : Nat}
theorem Mo.ne (h : Mo W U c1 nb p v) : c1 ≠ nb := fun e => by
  have h1 := h.box
  rw [Lin, e, show U.heap[nb]? = _ from h.num] at h1
  exact absurd (Obj.cells.inj (Option.some.inj h1)).2.1 (by decide)
theorem Mo.grown (h : Mo W U c1 nb p v) {U' : World} {row : Option Nat} (hg : U.grownBy U' row) (h1 : some c1 ≠ row) (h2 : some nb ≠ row) (h3 : ∀ r, row = some r → W.heap.size ≤ r) : Mo W U' c1 nb p v :=
  ⟨h.bel.grown hg h.bel.size h3, h.box.kept hg h1, h.num.kept hg h2, h.lo1, h.lo2⟩
theorem Mo.later (h : Mo W U c1 nb p v) (x : Later U) : Mo W x.w c1 nb p v := h.grown x.grown (by simp) (by simp) (by simp)
theorem Mo.set (h : Mo W U c1 nb p v) (r : Nat) : Mo W (U.setCell ⟨nb, 0, none⟩ (.int .i64 r)) c1 nb p r :=
  ⟨h.bel.setCell (p := ⟨nb, 0, none⟩) h.lo2 _, h.box.other h.ne _, h.num.set 0 _, h.lo1, h.lo2⟩
end
theorem KeepsFrom.of {B : Nat} {U : World} (x : Later U) : KeepsFrom B U x.w := ⟨x.size, fun k _ _ hk _ => (x.le.block k (Array.getElem?_eq_some_iff.1 hk).1).trans hk⟩
set_option maxRecDepth 100000 in
set_option maxHeartbeats 8000000 in
theorem most_calls (p mp lo : Nat) (a b : List UInt8) (M : PM) (ha : a.length ≤ 12) (hb : b.length ≤ 12) (W : World) (hD : Pair lo W p mp a b M) (hM : ∀ k, Tb.get M k = labO a b a.length 0 k) :
    Calls Try.prog 69 #[.pointer (some ⟨p, 0, none⟩)] W (Gives (.int .i64 (len a b : Nat)) W) := by
  have HD := Lib.hid hD
  have HM := Lib.hid hM
  have HA := Lib.hid ha
  have HB := Lib.hid hb
  clear hD hM ha hb
  refine (callsIn_wide (n := 6)).1 ?_
  refine callsIn_of_wp_marks Try.func69 rfl trivial ?_ rfl
  simp only [Try.ntmps69, List.size_toArray, List.length_cons, List.length_nil, Nat.reduceAdd, Nat.reduceSub, Array.replicate_succ, Array.replicate_zero, List.push_toArray, List.append_toArray, List.nil_append, List.cons_append]
  refine wpIn_wide.2 ?_
  go_wp2_with fail
  refine (matches_calls p _).mono ?_
  rintro e w' ⟨rfl, rfl⟩
  go_wp2
  obtain ⟨c1, hc1⟩ : ∃ c, W.heap.size = c := ⟨_, rfl⟩
  obtain ⟨nb, hnb⟩ : ∃ c, W.heap.size + 1 = c := ⟨_, rfl⟩
  obtain ⟨c2, hc2⟩ : ∃ c, W.heap.size + 1 + 1 = c := ⟨_, rfl⟩
  obtain ⟨U0, hU0⟩ : ∃ U0 : Later W, U0.w = ((W.alloc (.cells #[.pointer (some ⟨p, 0, none⟩)] 95)).alloc (.cells #[.int .i64 0] 3)).alloc (.cells #[.pointer (some ⟨p, 0, none⟩)] 95) := ⟨((Later.new _ _).step (Later.new _ _)).step (Later.new _ _), rfl⟩
  have hMo : Mo W U0.w c1 nb p 0 := by
    rw [hU0]
    refine ⟨(((Later.new _ _).step (Later.new _ _)).step (Later.new _ _)).le, ?_, ?_, by omega, by omega⟩
    · rw [← hc1]; exact ((Lin.new W _ [_]).later (Later.new _ _)).later (Later.new _ _)
    · have h9 := (Lin.new (W.alloc (.cells #[.pointer (some ⟨p, 0, none⟩)] 95)) 3 [.int .i64 0]).later (Later.new _ (.cells #[.pointer (some ⟨p, 0, none⟩)] 95))
      rw [World.size_alloc, hnb] at h9
      exact h9
  have k1 : U0.w.cell? ⟨c2, 0, none⟩ = some (.pointer (some ⟨p, 0, none⟩)) := by rw [hU0, ← hc2]; simp [go_sem]
  have k2 : c2 < U0.w.heap.size := by rw [hU0, ← hc2]; simp
  rw [← hU0, hc2, hnb, hc1]
  have hn2 : nb ≠ c2 := by omega
  have HWc := Lib.hid hc1
  have hcW : W.heap.size ≤ c2 := by omega
  clear hU0 hc1 hnb hc2
  refine (wpIn_wide (n := 6)).1 ?_
  refine wpIn_rangeFunc_ownH (F := Fence.wide) (n := 6) rfl (by decide) (gf := 93) (lb := #[.pointer (some ⟨c2, 0, none⟩)]) rfl trivial (enters_of Try.func93 (by kernel_rfl) rfl)
    (matches_stops 5 c2 p lo mp a b M HA.out HB.out W HD.out U0.w U0.le k1) (fun h k => h.t k) (KpM.b U0.size k2) (Below.refl _ _) (fun _ => rfl)
    (fun (pre : List (Mt a b)) U => Mo W U c1 nb p (mxA a b pre) ∧ U0.w.heap.size ≤ U.heap.size)
    (fun _ _ _ => False) ?grw
    (fun _ _ _ _ _ hs _ _ => hs)
    ⟨hMo, Nat.le_refl _⟩
    (fun x a' U => ∃ bb, Lin U bb 103 [.int .i64 (x.1.1 : Int), .int .i64 (x.1.2 : Int)] ∧ U0.w.heap.size ≤ bb ∧ a' = { tmps := #[.pointer (some ⟨p, 0, none⟩), .pointer (some ⟨c1, 0, none⟩), .int .i64 0, .pointer (some ⟨nb, 0, none⟩), .pointer (some ⟨bb, 0, none⟩), .pointer (some ⟨p, 0, none⟩), .func (.func 93) #[] #[.pointer (some ⟨c2, 0, none⟩)], .agg #[.int .i64 (x.1.1 : Int), .int .i64 (x.1.2 : Int)], undef, undef, undef, undef, undef, undef, undef, undef, undef], defers := [] }) ?grx ?assign ?body ?done ?stop
  case grw =>
    rintro pre A B row ⟨h1, h5⟩ hg hr
    have hne : ∀ c v T k, A.heap[c]? = some (.cells v T k) → some c ≠ row := fun c v T k hc e => by
      obtain ⟨o, ho, hcl⟩ := (hr c e.symm).2
      rw [hc] at ho
      cases ho
      cases hcl
    exact ⟨h1.grown hg (hne _ _ _ _ h1.box) (hne _ _ _ _ h1.num) (fun r e => by have := (hr r e).1; have := U0.size; omega), Nat.le_trans h5 hg.size⟩
  case grx =>
    rintro x a' _ A B row ⟨bb, h1, h2, h3⟩ hg hr
    exact ⟨bb, h1.kept hg (fun e => by
      obtain ⟨o, ho, hcl⟩ := (hr bb e.symm).2
      rw [show A.heap[bb]? = _ from h1] at ho
      cases ho
      cases hcl), h2, h3⟩
  case assign =>
    rintro l pre ⟨⟨i, j⟩, hi, hj, hch⟩ U K ⟨h1, h5⟩ hK
    simp only [mtE]
    gi_wp2
    refine hK _ _ (KeepsFrom.of (Later.new U _)) (KpM.of (Later.new U _) h1.bel.size (Nat.lt_of_lt_of_le k2 h5)) ⟨h1.later (Later.new U _), Nat.le_trans h5 (Later.new U _).size⟩ ⟨U.heap.size, Lin.new U _ [_, _], h5, rfl⟩
  case body =>
    rintro l pre ⟨⟨i, j⟩, hi, hj, hch⟩ a' U - - ⟨h1, h5⟩ ⟨bb, hbb, hbl, rfl⟩ hlen
    have HMX := Lib.hid (mxA_snoc a b pre (⟨(i, j), hi, hj, hch⟩ : Mt a b))
    obtain ⟨v, hv⟩ : ∃ v, mxA a b pre = v := ⟨_, rfl⟩
    obtain ⟨L, hL⟩ : ∃ v, lc a b i j = v := ⟨_, rfl⟩
    have HL := Lib.hid hL
    rw [hv] at h1 HMX
    have hv12 : v ≤ 12 := by
      rw [← hv, mxA]
      rcases (mxL_mem a b (pre.map mtI).reverse).2 with h | ⟨p, hp, h⟩
      · omega
      · rw [h]
        rw [List.mem_reverse] at hp
        obtain ⟨y, _, rfl⟩ := List.mem_map.1 hp
        have h6 := y.2
        have h7 := lc_le' a b y.1.1 y.1.2
        have h8 := HB.out
        simp only [mtI, Int.toNat_natCast]
        omega
    have hL12 : L ≤ 12 := by rw [← hL]; exact Nat.le_trans (lc_le' a b i j) (by have := HB.out; omega)
    have hlab : Tb.get M ((i : Int), (j : Int)) = some ((L + 1 : Nat) : Int) := by
      rw [HM.out, labO, if_pos (by
        refine ⟨by dsimp only; omega, by dsimp only; omega, .inl (by dsimp only; omega), by dsimp only; omega, ?_⟩
        dsimp only
        rw [Int.toNat_natCast, Int.toNat_natCast]; exact hch)]
      dsimp only
      rw [Int.toNat_natCast, Int.toNat_natCast, hL]
    have hP := HD.out.later ⟨U, h1.bel⟩
    dsimp only at hP
    have hlook := fun (x : Later U) => (hP.later x).tab.look match_keys Try.underlying112 (z := .int .i64 0) (fun w => by kernel_rfl) ((i : Int), (j : Int)) false
    rw [hlab] at hlook
    simp only [keyV, numV, Bool.false_eq_true, if_false, Option.map_some, Option.getD_some] at hlook
    have d2 := hP.blk.cell (k := 2) rfl
    have dl := hP.blk.lt
    have e1 := h1.box.cell (k := 0) rfl
    have el := h1.box.lt
    have n0 := h1.num.cell (k := 0) rfl
    have nl := h1.num.lt
    have m0 := hbb.cell (k := 0) rfl
    have m1 := hbb.cell (k := 1) rfl
    have ml := hbb.lt
    clear hv hL hlab hP hbb
    gi_wp2
    refine Mix.region_split_at 7 2 (Mix.kinds [] [] []) rfl rfl (by kernel_rfl) (by kernel_rfl) (by kernel_rfl) ?_
    simp only [List.take_succ_cons, List.take_zero]
    repeat ((with_reducible refine Mix.atCons ?_); first | refine Mix.skipU (by rfl) rfl (by rfl) ?_ | (refine Mix.val rfl rfl (by rfl) (fun K hK => ?_); go_big_quiet_op; refine hK _ ?_; clear hK K) | (refine Mix.skip (by rfl) ?_; go_frame))
    refine Mix.done (fun x0 => ?_)
    have hM0 := h1.later x0
    have n0 := hM0.num.cell (k := 0) rfl
    have nf := hM0.num.frozen 0
    have nl := hM0.num.lt
    have HMS := Lib.hid (hM0.set (max (L + 1) v))
    have HKP := Lib.hid (show KpM W.heap.size c2 U (x0.w.setCell ⟨nb, 0, none⟩ (.int .i64 (max (L + 1) v : Nat))) from
      (KpM.of x0 h1.bel.size (Nat.lt_of_lt_of_le k2 h5)).t ⟨(Below.refl _ _).setCell (p := ⟨nb, 0, none⟩) h1.lo2 _, World.cell?_setCell_other _ _ _ _ (fun e => by injection e with e1 e2; omega)⟩)
    have HSZ := Lib.hid (show U0.w.heap.size ≤ (x0.w.setCell ⟨nb, 0, none⟩ (.int .i64 (max (L + 1) v : Nat))).heap.size by simp [World.setCell]; exact Nat.le_trans h5 x0.size)
    have HKF := Lib.hid (KeepsFrom.trans (KeepsFrom.of (B := U0.w.heap.size) x0) ((KeepsOthers.setCell x0.w ⟨nb, 0, none⟩ (.int .i64 (max (L + 1) v : Nat))).from _))
    clear h1 hM0
    have hmx : max (v : Int) ((L : Int) + 1) = ((max (L + 1) v : Nat) : Int) := by omega
    refine wpAnyIn_all (rs := [7]) (by kernel_rfl) (by simp) (fun i hi => ?_)
    obtain rfl : i = 7 := by simpa using hi
    clear hi
    refine Mix.wpOpIn_some rfl (by rfl) (fun Kc hKc => ?_)
    gi_wp2_with fail
    try clear hKc Kc
    refine wpAnyIn_all (rs := [8]) (by kernel_rfl) (by simp) (fun i hi => ?_)
    obtain rfl : i = 8 := by simpa using hi
    clear hi
    refine Mix.wpOpIn_some rfl (by rfl) (fun Kc hKc => ?_)
    gi_wp2_with fail
    try clear hKc Kc
    refine wpAnyIn_done (by kernel_rfl) ?_ _
    gi_wp2
    exact ⟨HKF.out, HKP.out, by rw [HMX.out, HL.out]; exact HMS.out, HSZ.out⟩
  case done =>
    rintro D ys U hD hys ⟨h1, h5⟩ hK
    rw [mxA_all hys] at h1
    have n0 := h1.num.cell (k := 0) rfl
    have nl := h1.num.lt
    have hbel := h1.bel
    clear h1
    go_wp2
    refine leaves_marks (by simp) (fun U => Below W.heap.size W U) W.heap.size (fun U D hD hK hU => hU.grown (grownBy_putObj' U D (.deferred none)) hU.size (fun r e => by cases e; exact hD)) (fun U hU => ?_) [D] _ (by simp) (fun E hE => ?_) hbel
    · refine ⟨_, results_tmp rfl _ _ _, ?_⟩
      exact ⟨rfl, ⟨U, hU⟩, rfl⟩
    · obtain rfl : E = D := by simpa using hE
      exact ⟨Nat.le_trans U0.size hD, hK⟩
  case stop =>
    rintro D c pre W _ _ h _
    exact h.elim

end Go.Proofs.Ytpkgfkeekcgkcaa

/-  The program's Fewest, Unseen. -/
namespace Go.Proofs.Ytpkgfkeekcgkcaa
open Go.RowKit
open Lcs (few len)
set_option maxRecDepth 100000 in
set_option maxHeartbeats 4000000 in
theorem Fewest_calls (a b : List UInt8) (W : World) :
    Calls Try.prog 31 #[.string ⟨a.toArray⟩, .string ⟨b.toArray⟩] W (Gives (.tuple #[.int .i64 (fewE a b), .int .i64 (txtsE a b)]) W) := by
  by_cases h : txtsE a b = 0
  · obtain ⟨h1, h2⟩ := txts_ok h
    have HE := Lib.hid (show fewE a b = (few a b : Nat) ∧ txtsE a b = 0 from ⟨by rw [fewE, if_pos h], h⟩)
    obtain ⟨n, hn⟩ : ∃ n, a.length = n := ⟨_, rfl⟩
    obtain ⟨m, hm⟩ : ∃ n, b.length = n := ⟨_, rfl⟩
    have hsa : (⟨a.toArray⟩ : ByteArray).size = n := by rw [str_size]; exact hn
    have hsb : (⟨b.toArray⟩ : ByteArray).size = m := by rw [str_size]; exact hm
    obtain ⟨L, hL⟩ : ∃ L, len a b = L := ⟨_, rfl⟩
    have hL2 : L ≤ 12 := by rw [← hL]; have := Lcs.len_le a b; omega
    have hn12 : n ≤ 12 := by omega
    have hm12 : m ≤ 12 := by omega
    have HF := Lib.hid (show (few a b : Int) = (n : Int) + (m : Int) - 2 * (L : Int) by have := Lcs.few_eq a b; rw [hL, hn, hm] at this; omega)
    have H1 := Lib.hid h1
    have H2 := Lib.hid h2
    have HH := Lib.hid h
    have HL := Lib.hid hL
    clear h h1 h2 hn hm hL
    go_enter Try.func31, Try.ntmps31
    go_wp2_with fail
    refine (compare_ok a b _ HH.out).mono ?_
    rintro e w' ⟨p, mp, M, x, rfl, rfl, hP, hM⟩
    go_wp2_with fail
    refine (most_calls p mp _ a b M H1.out H2.out _ hP hM).mono ?_
    rintro e w' ⟨rfl, y, rfl⟩
    rw [HL.out]
    go_wp2
    go_ret2
    exact ⟨by rw [HE.out.1, HE.out.2, HF.out]; rfl, x.step y, rfl⟩
  · have HE := Lib.hid (show fewE a b = 0 by rw [fewE, if_neg h])
    obtain ⟨E, hE⟩ : ∃ E, txtsE a b = E := ⟨_, rfl⟩
    have HX := Lib.hid (compare_err a b W h)
    rw [hE] at h HX
    have hne : (E != 0) = true := by simpa using h
    have HEE := Lib.hid hE
    clear h hE
    go_enter Try.func31, Try.ntmps31
    go_wp2_with fail
    refine HX.out.mono ?_
    rintro e w' ⟨rfl, hw⟩
    rw [hw]
    clear hw w'
    go_wp2
    go_ret2
    exact ⟨by rw [HE.out, HEE.out]; rfl, Later.self _, rfl⟩

end Go.Proofs.Ytpkgfkeekcgkcaa

/-  The program's Unseen. -/
namespace Go.Proofs.Ytpkgfkeekcgkcaa
open Go.RowKit
theorem within_two (n m lo hi : Int) (b c : Nat) (w : World) (h : w.cell? ⟨b, 0, none⟩ = some (.int .i64 n)) (h2 : w.cell? ⟨b, 1, none⟩ = some (.int .i64 m)) (hc : 2 ≤ c) : Calls Try.prog 60 #[.int .i64 lo, .int .i64 hi, .slice (some ⟨b, 0, none⟩) 2 c] w (Gives (.bool (decide (lo ≤ n ∧ n ≤ hi ∧ lo ≤ m ∧ m ≤ hi))) w) := by
  have hx : Ints w (.slice (some ⟨b, 0, none⟩) 2 c) [n, m] := ⟨by simp, .inr ⟨b, 0, c, rfl, hc, World.block_lt_of_cell? w _ h, fun k hk => by
    have hk2 : k < 2 := by simpa using hk
    obtain rfl | rfl : k = 0 ∨ k = 1 := by omega
    · exact h
    · exact h2⟩⟩
  refine (within_calls _ [n, m] lo hi w hx).mono ?_
  rintro e w' ⟨rfl, x, rfl⟩
  refine ⟨ret_bool ?_, x, rfl⟩
  rw [Bool.eq_iff_iff]
  simp [outB]
  omega
set_option maxRecDepth 100000 in
set_option maxHeartbeats 4000000 in
theorem Unseen_calls (one two both num den : Int) (W : World) :
    Calls Try.prog 43 #[.int .i64 one, .int .i64 two, .int .i64 both, .agg #[.int .i64 num, .int .i64 den]] W (RgG (unsH one two both num den) (unsE one two both num den) W) := by
  have S : Ins W [] := Ins.nil _
  obtain ⟨mn, hmn⟩ : ∃ m, min one two = m := ⟨_, rfl⟩
  have HMN := Lib.hid hmn
  by_cases hw1 : 0 ≤ one ∧ one ≤ 1000 ∧ 0 ≤ two ∧ two ≤ 1000
  rotate_left
  · have HW1 := Lib.hid (show decide (0 ≤ one ∧ one ≤ 1000 ∧ 0 ≤ two ∧ two ≤ 1000) = false from decide_eq_false hw1)
    have HR := Lib.hid (uns_arg (one := one) (two := two) (both := both) (num := num) (den := den) (by unfold argU; omega))
    clear hw1
    go_enter Try.func43, Try.ntmps43
    go_wp2_with fail
    obtain ⟨B1, hb⟩ : ∃ b, b = W.heap.size := ⟨_, rfl⟩
    have l1 : Lin (W.alloc (.cells #[.int .i64 num, .int .i64 den] 55)) B1 55 [.int .i64 num, .int .i64 den] := by rw [hb]; exact Lin.new _ _ [.int .i64 num, .int .i64 den]
    replace S := S.later (Later.new _ (.cells #[.int .i64 num, .int .i64 den] 55))
    rw [Later.new_w] at S
    have hsz : (W.alloc (.cells #[.int .i64 num, .int .i64 den] 55)).heap.size = B1 + 1 := by rw [hb]; simp
    obtain ⟨Y2, hZ⟩ : ∃ Z : Later W, Z.w = W.alloc (.cells #[.int .i64 num, .int .i64 den] 55) := ⟨Later.new _ _, rfl⟩
    rw [← hZ] at S hsz l1 ⊢
    clear hZ
    rw [← hb]
    clear hb
    have hs2 := hsz
    rw [← hsz]
    clear hsz hs2
    obtain ⟨B3, hb⟩ : ∃ b, b = Y2.w.heap.size := ⟨_, rfl⟩
    have hloB3 : W.heap.size ≤ B3 := by rw [hb]; exact Y2.size
    have l3 : Lin (Y2.w.alloc (.cells #[.int .i64 0, .int .i64 0] 57)) B3 57 [.int .i64 0, .int .i64 0] := by rw [hb]; exact Lin.new _ _ [.int .i64 0, .int .i64 0]
    replace S := S.later (Later.new _ (.cells #[.int .i64 0, .int .i64 0] 57))
    rw [Later.new_w] at S
    replace l1 := l1.later (Later.new _ (.cells #[.int .i64 0, .int .i64 0] 57))
    rw [Later.new_w] at l1
    have hsz : (Y2.w.alloc (.cells #[.int .i64 0, .int .i64 0] 57)).heap.size = B3 + 1 := by rw [hb]; simp
    obtain ⟨Y4, hZ⟩ : ∃ Z : Later W, Z.w = Y2.w.alloc (.cells #[.int .i64 0, .int .i64 0] 57) := ⟨Y2.step (Later.new _ _), rfl⟩
    rw [← hZ] at S hsz l1 l3 ⊢
    clear hZ
    rw [← hb]
    clear hb
    have HSZ := Lib.hid hsz
    clear hsz
    clear hmn
    refine (within_two one two 0 1000 _ _ _ (by rw [← HSZ.out]; simp [go_sem]) (by rw [← HSZ.out]; simp [go_sem]) (by omega)).mono ?_
    rintro e w' ⟨rfl, y, hw⟩
    rw [hw, HW1.out]
    obtain ⟨z, hz⟩ : ∃ z : Later Y4.w, z.w = y.w := ⟨(Later.new _ _).step y, rfl⟩
    rw [← hz]
    clear hw hz w' y
    replace l1 := l1.later z
    replace l3 := l3.later z
    replace S := S.later z
    obtain ⟨Y5, hZ⟩ : ∃ Z : Later W, Z.w = z.w := ⟨Y4.step (z), rfl⟩
    rw [← hZ] at S l1 l3 ⊢
    clear hZ
    clear z
    have t0 := l3.cell (k := 0) rfl
    have t1' := l3.cell (k := 1) rfl
    have f0 := l3.frozen 0
    have f1 := l3.frozen 1
    have tl := l3.lt
    go_wp2
    refine bodyPost_ret (v := .tuple #[.agg #[.int .i64 0, .int .i64 0], .int .i64 2]) (by simp [results, Try.results43, go_sem, t0, t1']) rfl ?_
    refine ⟨⟨_, ((Y5.le.setCell (p := ⟨B3, 0, none⟩) hloB3 (.int .i64 0)).setCell (p := ⟨B3, 1, none⟩) hloB3 (.int .i64 0))⟩, by rw [HR.out.1, HR.out.2], rfl⟩
  have HW1 := Lib.hid (show decide (0 ≤ one ∧ one ≤ 1000 ∧ 0 ≤ two ∧ two ≤ 1000) = true from decide_eq_true hw1)
  obtain ⟨o0, o1, t0_, t1_⟩ := hw1
  by_cases hw2 : 0 ≤ both ∧ both ≤ mn
  rotate_left
  · have HW2 := Lib.hid (show (decide (0 ≤ both) && decide (both ≤ mn)) = false by rw [← Bool.decide_and]; exact decide_eq_false hw2)
    have HR := Lib.hid (uns_arg (one := one) (two := two) (both := both) (num := num) (den := den) (by unfold argU; omega))
    clear hw2
    go_enter Try.func43, Try.ntmps43
    go_wp2_with fail
    obtain ⟨B1, hb⟩ : ∃ b, b = W.heap.size := ⟨_, rfl⟩
    have l1 : Lin (W.alloc (.cells #[.int .i64 num, .int .i64 den] 55)) B1 55 [.int .i64 num, .int .i64 den] := by rw [hb]; exact Lin.new _ _ [.int .i64 num, .int .i64 den]
    replace S := S.later (Later.new _ (.cells #[.int .i64 num, .int .i64 den] 55))
    rw [Later.new_w] at S
    have hsz : (W.alloc (.cells #[.int .i64 num, .int .i64 den] 55)).heap.size = B1 + 1 := by rw [hb]; simp
    obtain ⟨Y2, hZ⟩ : ∃ Z : Later W, Z.w = W.alloc (.cells #[.int .i64 num, .int .i64 den] 55) := ⟨Later.new _ _, rfl⟩
    rw [← hZ] at S hsz l1 ⊢
    clear hZ
    rw [← hb]
    clear hb
    have hs2 := hsz
    rw [← hsz]
    clear hsz hs2
    obtain ⟨B3, hb⟩ : ∃ b, b = Y2.w.heap.size := ⟨_, rfl⟩
    have hloB3 : W.heap.size ≤ B3 := by rw [hb]; exact Y2.size
    have l3 : Lin (Y2.w.alloc (.cells #[.int .i64 0, .int .i64 0] 57)) B3 57 [.int .i64 0, .int .i64 0] := by rw [hb]; exact Lin.new _ _ [.int .i64 0, .int .i64 0]
    replace S := S.later (Later.new _ (.cells #[.int .i64 0, .int .i64 0] 57))
    rw [Later.new_w] at S
    replace l1 := l1.later (Later.new _ (.cells #[.int .i64 0, .int .i64 0] 57))
    rw [Later.new_w] at l1
    have hsz : (Y2.w.alloc (.cells #[.int .i64 0, .int .i64 0] 57)).heap.size = B3 + 1 := by rw [hb]; simp
    obtain ⟨Y4, hZ⟩ : ∃ Z : Later W, Z.w = Y2.w.alloc (.cells #[.int .i64 0, .int .i64 0] 57) := ⟨Y2.step (Later.new _ _), rfl⟩
    rw [← hZ] at S hsz l1 l3 ⊢
    clear hZ
    rw [← hb]
    clear hb
    have HSZ := Lib.hid hsz
    clear hsz
    refine (within_two one two 0 1000 _ _ _ (by rw [← HSZ.out]; simp [go_sem]) (by rw [← HSZ.out]; simp [go_sem]) (by omega)).mono ?_
    rintro e w' ⟨rfl, y, hw⟩
    rw [hw, HW1.out]
    obtain ⟨z, hz⟩ : ∃ z : Later Y4.w, z.w = y.w := ⟨(Later.new _ _).step y, rfl⟩
    rw [← hz]
    clear hw hz w' y
    replace l1 := l1.later z
    replace l3 := l3.later z
    replace S := S.later z
    obtain ⟨Y5, hZ⟩ : ∃ Z : Later W, Z.w = z.w := ⟨Y4.step (z), rfl⟩
    rw [← hZ] at S l1 l3 ⊢
    clear hZ
    clear z
    go_wp2_with fail
    refine (within_one both 0 mn _ _ _ (by simp [go_sem]) (by omega)).mono ?_
    rintro e w' ⟨rfl, y, hw⟩
    rw [hw, HW2.out]
    obtain ⟨z, hz⟩ : ∃ z : Later Y5.w, z.w = y.w := ⟨(Later.new _ _).step y, rfl⟩
    rw [← hz]
    clear hw hz w' y
    replace l1 := l1.later z
    replace l3 := l3.later z
    replace S := S.later z
    obtain ⟨Y6, hZ⟩ : ∃ Z : Later W, Z.w = z.w := ⟨Y5.step (z), rfl⟩
    rw [← hZ] at S l1 l3 ⊢
    clear hZ
    clear z
    have t0 := l3.cell (k := 0) rfl
    have t1' := l3.cell (k := 1) rfl
    have f0 := l3.frozen 0
    have f1 := l3.frozen 1
    have tl := l3.lt
    go_wp2
    refine bodyPost_ret (v := .tuple #[.agg #[.int .i64 0, .int .i64 0], .int .i64 2]) (by simp [results, Try.results43, go_sem, t0, t1']) rfl ?_
    refine ⟨⟨_, ((Y6.le.setCell (p := ⟨B3, 0, none⟩) hloB3 (.int .i64 0)).setCell (p := ⟨B3, 1, none⟩) hloB3 (.int .i64 0))⟩, by rw [HR.out.1, HR.out.2], rfl⟩
  have HW2 := Lib.hid (show (decide (0 ≤ both) && decide (both ≤ mn)) = true by rw [← Bool.decide_and]; exact decide_eq_true hw2)
  have hA : ¬ argU one two both := by unfold argU; omega
  obtain ⟨b0, b1⟩ := hw2
  by_cases hw3 : 1 ≤ den ∧ den ≤ 1000
  rotate_left
  · have HW3 := Lib.hid (show (decide (1 ≤ den) && decide (den ≤ 1000)) = false by rw [← Bool.decide_and]; exact decide_eq_false hw3)
    have HR := Lib.hid (uns_share (num := num) (den := den) hA (by unfold shareU; omega))
    clear hw3 hA b0 b1
    go_enter Try.func43, Try.ntmps43
    go_wp2_with fail
    obtain ⟨B1, hb⟩ : ∃ b, b = W.heap.size := ⟨_, rfl⟩
    have l1 : Lin (W.alloc (.cells #[.int .i64 num, .int .i64 den] 55)) B1 55 [.int .i64 num, .int .i64 den] := by rw [hb]; exact Lin.new _ _ [.int .i64 num, .int .i64 den]
    replace S := S.later (Later.new _ (.cells #[.int .i64 num, .int .i64 den] 55))
    rw [Later.new_w] at S
    have hsz : (W.alloc (.cells #[.int .i64 num, .int .i64 den] 55)).heap.size = B1 + 1 := by rw [hb]; simp
    obtain ⟨Y2, hZ⟩ : ∃ Z : Later W, Z.w = W.alloc (.cells #[.int .i64 num, .int .i64 den] 55) := ⟨Later.new _ _, rfl⟩
    rw [← hZ] at S hsz l1 ⊢
    clear hZ
    rw [← hb]
    clear hb
    have hs2 := hsz
    rw [← hsz]
    clear hsz hs2
    obtain ⟨B3, hb⟩ : ∃ b, b = Y2.w.heap.size := ⟨_, rfl⟩
    have hloB3 : W.heap.size ≤ B3 := by rw [hb]; exact Y2.size
    have l3 : Lin (Y2.w.alloc (.cells #[.int .i64 0, .int .i64 0] 57)) B3 57 [.int .i64 0, .int .i64 0] := by rw [hb]; exact Lin.new _ _ [.int .i64 0, .int .i64 0]
    replace S := S.later (Later.new _ (.cells #[.int .i64 0, .int .i64 0] 57))
    rw [Later.new_w] at S
    replace l1 := l1.later (Later.new _ (.cells #[.int .i64 0, .int .i64 0] 57))
    rw [Later.new_w] at l1
    have hsz : (Y2.w.alloc (.cells #[.int .i64 0, .int .i64 0] 57)).heap.size = B3 + 1 := by rw [hb]; simp
    obtain ⟨Y4, hZ⟩ : ∃ Z : Later W, Z.w = Y2.w.alloc (.cells #[.int .i64 0, .int .i64 0] 57) := ⟨Y2.step (Later.new _ _), rfl⟩
    rw [← hZ] at S hsz l1 l3 ⊢
    clear hZ
    rw [← hb]
    clear hb
    have HSZ := Lib.hid hsz
    clear hsz
    refine (within_two one two 0 1000 _ _ _ (by rw [← HSZ.out]; simp [go_sem]) (by rw [← HSZ.out]; simp [go_sem]) (by omega)).mono ?_
    rintro e w' ⟨rfl, y, hw⟩
    rw [hw, HW1.out]
    obtain ⟨z, hz⟩ : ∃ z : Later Y4.w, z.w = y.w := ⟨(Later.new _ _).step y, rfl⟩
    rw [← hz]
    clear hw hz w' y
    replace l1 := l1.later z
    replace l3 := l3.later z
    replace S := S.later z
    obtain ⟨Y5, hZ⟩ : ∃ Z : Later W, Z.w = z.w := ⟨Y4.step (z), rfl⟩
    rw [← hZ] at S l1 l3 ⊢
    clear hZ
    clear z
    go_wp2_with fail
    refine (within_one both 0 mn _ _ _ (by simp [go_sem]) (by omega)).mono ?_
    rintro e w' ⟨rfl, y, hw⟩
    rw [hw, HW2.out]
    obtain ⟨z, hz⟩ : ∃ z : Later Y5.w, z.w = y.w := ⟨(Later.new _ _).step y, rfl⟩
    rw [← hz]
    clear hw hz w' y
    replace l1 := l1.later z
    replace l3 := l3.later z
    replace S := S.later z
    obtain ⟨Y6, hZ⟩ : ∃ Z : Later W, Z.w = z.w := ⟨Y5.step (z), rfl⟩
    rw [← hZ] at S l1 l3 ⊢
    clear hZ
    clear z
    have q0_0 := l1.cell (k := 0) rfl
    have q0_1 := l1.cell (k := 1) rfl
    have q0_l := l1.lt
    go_wp2_with fail
    clear q0_0 q0_1 q0_l
    refine (within_one den 1 1000 _ _ _ (by simp [go_sem]) (by omega)).mono ?_
    rintro e w' ⟨rfl, y, hw⟩
    rw [hw, HW3.out]
    obtain ⟨z, hz⟩ : ∃ z : Later Y6.w, z.w = y.w := ⟨(Later.new _ _).step y, rfl⟩
    rw [← hz]
    clear hw hz w' y
    replace l1 := l1.later z
    replace l3 := l3.later z
    replace S := S.later z
    obtain ⟨Y7, hZ⟩ : ∃ Z : Later W, Z.w = z.w := ⟨Y6.step (z), rfl⟩
    rw [← hZ] at S l1 l3 ⊢
    clear hZ
    clear z
    have t0 := l3.cell (k := 0) rfl
    have t1' := l3.cell (k := 1) rfl
    have f0 := l3.frozen 0
    have f1 := l3.frozen 1
    have tl := l3.lt
    go_wp2
    refine bodyPost_ret (v := .tuple #[.agg #[.int .i64 0, .int .i64 0], .int .i64 3]) (by simp [results, Try.results43, go_sem, t0, t1']) rfl ?_
    refine ⟨⟨_, ((Y7.le.setCell (p := ⟨B3, 0, none⟩) hloB3 (.int .i64 0)).setCell (p := ⟨B3, 1, none⟩) hloB3 (.int .i64 0))⟩, by rw [HR.out.1, HR.out.2], rfl⟩
  have HW3 := Lib.hid (show (decide (1 ≤ den) && decide (den ≤ 1000)) = true by rw [← Bool.decide_and]; exact decide_eq_true hw3)
  obtain ⟨d0, d1⟩ := hw3
  by_cases hw4 : 1 ≤ num ∧ num ≤ den
  rotate_left
  · have HW4 := Lib.hid (show (decide (1 ≤ num) && decide (num ≤ den)) = false by rw [← Bool.decide_and]; exact decide_eq_false hw4)
    have HR := Lib.hid (uns_share (num := num) (den := den) hA (by unfold shareU; omega))
    clear hw4 hA b0 b1
    go_enter Try.func43, Try.ntmps43
    go_wp2_with fail
    obtain ⟨B1, hb⟩ : ∃ b, b = W.heap.size := ⟨_, rfl⟩
    have l1 : Lin (W.alloc (.cells #[.int .i64 num, .int .i64 den] 55)) B1 55 [.int .i64 num, .int .i64 den] := by rw [hb]; exact Lin.new _ _ [.int .i64 num, .int .i64 den]
    replace S := S.later (Later.new _ (.cells #[.int .i64 num, .int .i64 den] 55))
    rw [Later.new_w] at S
    have hsz : (W.alloc (.cells #[.int .i64 num, .int .i64 den] 55)).heap.size = B1 + 1 := by rw [hb]; simp
    obtain ⟨Y2, hZ⟩ : ∃ Z : Later W, Z.w = W.alloc (.cells #[.int .i64 num, .int .i64 den] 55) := ⟨Later.new _ _, rfl⟩
    rw [← hZ] at S hsz l1 ⊢
    clear hZ
    rw [← hb]
    clear hb
    have hs2 := hsz
    rw [← hsz]
    clear hsz hs2
    obtain ⟨B3, hb⟩ : ∃ b, b = Y2.w.heap.size := ⟨_, rfl⟩
    have hloB3 : W.heap.size ≤ B3 := by rw [hb]; exact Y2.size
    have l3 : Lin (Y2.w.alloc (.cells #[.int .i64 0, .int .i64 0] 57)) B3 57 [.int .i64 0, .int .i64 0] := by rw [hb]; exact Lin.new _ _ [.int .i64 0, .int .i64 0]
    replace S := S.later (Later.new _ (.cells #[.int .i64 0, .int .i64 0] 57))
    rw [Later.new_w] at S
    replace l1 := l1.later (Later.new _ (.cells #[.int .i64 0, .int .i64 0] 57))
    rw [Later.new_w] at l1
    have hsz : (Y2.w.alloc (.cells #[.int .i64 0, .int .i64 0] 57)).heap.size = B3 + 1 := by rw [hb]; simp
    obtain ⟨Y4, hZ⟩ : ∃ Z : Later W, Z.w = Y2.w.alloc (.cells #[.int .i64 0, .int .i64 0] 57) := ⟨Y2.step (Later.new _ _), rfl⟩
    rw [← hZ] at S hsz l1 l3 ⊢
    clear hZ
    rw [← hb]
    clear hb
    have HSZ := Lib.hid hsz
    clear hsz
    refine (within_two one two 0 1000 _ _ _ (by rw [← HSZ.out]; simp [go_sem]) (by rw [← HSZ.out]; simp [go_sem]) (by omega)).mono ?_
    rintro e w' ⟨rfl, y, hw⟩
    rw [hw, HW1.out]
    obtain ⟨z, hz⟩ : ∃ z : Later Y4.w, z.w = y.w := ⟨(Later.new _ _).step y, rfl⟩
    rw [← hz]
    clear hw hz w' y
    replace l1 := l1.later z
    replace l3 := l3.later z
    replace S := S.later z
    obtain ⟨Y5, hZ⟩ : ∃ Z : Later W, Z.w = z.w := ⟨Y4.step (z), rfl⟩
    rw [← hZ] at S l1 l3 ⊢
    clear hZ
    clear z
    go_wp2_with fail
    refine (within_one both 0 mn _ _ _ (by simp [go_sem]) (by omega)).mono ?_
    rintro e w' ⟨rfl, y, hw⟩
    rw [hw, HW2.out]
    obtain ⟨z, hz⟩ : ∃ z : Later Y5.w, z.w = y.w := ⟨(Later.new _ _).step y, rfl⟩
    rw [← hz]
    clear hw hz w' y
    replace l1 := l1.later z
    replace l3 := l3.later z
    replace S := S.later z
    obtain ⟨Y6, hZ⟩ : ∃ Z : Later W, Z.w = z.w := ⟨Y5.step (z), rfl⟩
    rw [← hZ] at S l1 l3 ⊢
    clear hZ
    clear z
    have q0_0 := l1.cell (k := 0) rfl
    have q0_1 := l1.cell (k := 1) rfl
    have q0_l := l1.lt
    go_wp2_with fail
    clear q0_0 q0_1 q0_l
    refine (within_one den 1 1000 _ _ _ (by simp [go_sem]) (by omega)).mono ?_
    rintro e w' ⟨rfl, y, hw⟩
    rw [hw, HW3.out]
    obtain ⟨z, hz⟩ : ∃ z : Later Y6.w, z.w = y.w := ⟨(Later.new _ _).step y, rfl⟩
    rw [← hz]
    clear hw hz w' y
    replace l1 := l1.later z
    replace l3 := l3.later z
    replace S := S.later z
    obtain ⟨Y7, hZ⟩ : ∃ Z : Later W, Z.w = z.w := ⟨Y6.step (z), rfl⟩
    rw [← hZ] at S l1 l3 ⊢
    clear hZ
    clear z
    have q0_0 := l1.cell (k := 0) rfl
    have q0_1 := l1.cell (k := 1) rfl
    have q0_l := l1.lt
    go_wp2_with fail
    clear q0_0 q0_1 q0_l
    refine (within_one num 1 den _ _ _ (by simp [go_sem]) (by omega)).mono ?_
    rintro e w' ⟨rfl, y, hw⟩
    rw [hw, HW4.out]
    obtain ⟨z, hz⟩ : ∃ z : Later Y7.w, z.w = y.w := ⟨(Later.new _ _).step y, rfl⟩
    rw [← hz]
    clear hw hz w' y
    replace l1 := l1.later z
    replace l3 := l3.later z
    replace S := S.later z
    obtain ⟨Y8, hZ⟩ : ∃ Z : Later W, Z.w = z.w := ⟨Y7.step (z), rfl⟩
    rw [← hZ] at S l1 l3 ⊢
    clear hZ
    clear z
    have t0 := l3.cell (k := 0) rfl
    have t1' := l3.cell (k := 1) rfl
    have f0 := l3.frozen 0
    have f1 := l3.frozen 1
    have tl := l3.lt
    go_wp2
    refine bodyPost_ret (v := .tuple #[.agg #[.int .i64 0, .int .i64 0], .int .i64 3]) (by simp [results, Try.results43, go_sem, t0, t1']) rfl ?_
    refine ⟨⟨_, ((Y8.le.setCell (p := ⟨B3, 0, none⟩) hloB3 (.int .i64 0)).setCell (p := ⟨B3, 1, none⟩) hloB3 (.int .i64 0))⟩, by rw [HR.out.1, HR.out.2], rfl⟩
  have HW4 := Lib.hid (show (decide (1 ≤ num) && decide (num ≤ den)) = true by rw [← Bool.decide_and]; exact decide_eq_true hw4)
  obtain ⟨n0, n1⟩ := hw4
  have hB : ¬ shareU num den := by unfold shareU; omega
  have hbx := unsM_box (num := num) o0 o1 t0_ (show 0 < num by omega) (show 0 ≤ den by omega) d1
  have hmb := mul_box (x := mn) (y := den) (X := 1000) (Y := 1000) (by omega) (by omega) (by omega) d1
  obtain ⟨MD, hMD⟩ : ∃ m, mn * den = m := ⟨_, rfl⟩
  obtain ⟨M, hM⟩ : ∃ m, MD.tdiv num = m := ⟨_, rfl⟩
  have hMe : unsM one two num den = M := by rw [unsM, hmn, hMD, ← hM, Int.tdiv_eq_ediv_of_nonneg (by omega)]
  rw [hMe] at hbx
  obtain ⟨hb0, hb1⟩ := hbx
  rw [hMD] at hmb
  obtain ⟨hm0, hm1⟩ := hmb
  have hnz : (num == 0) = false := by simp; omega
  have HMe := Lib.hid hMe
  clear hMe
  by_cases hl : M - (one + two - both) < 0
  · have HR := Lib.hid (uns_none (num := num) (den := den) hA hB (by rw [HMe.out]; omega))
    have hd : decide (M - (one + two - both) < 0) = true := decide_eq_true hl
    clear hA hB hl
    go_enter Try.func43, Try.ntmps43
    go_wp2_with fail
    obtain ⟨B1, hb⟩ : ∃ b, b = W.heap.size := ⟨_, rfl⟩
    have l1 : Lin (W.alloc (.cells #[.int .i64 num, .int .i64 den] 55)) B1 55 [.int .i64 num, .int .i64 den] := by rw [hb]; exact Lin.new _ _ [.int .i64 num, .int .i64 den]
    replace S := S.later (Later.new _ (.cells #[.int .i64 num, .int .i64 den] 55))
    rw [Later.new_w] at S
    have hsz : (W.alloc (.cells #[.int .i64 num, .int .i64 den] 55)).heap.size = B1 + 1 := by rw [hb]; simp
    obtain ⟨Y2, hZ⟩ : ∃ Z : Later W, Z.w = W.alloc (.cells #[.int .i64 num, .int .i64 den] 55) := ⟨Later.new _ _, rfl⟩
    rw [← hZ] at S hsz l1 ⊢
    clear hZ
    rw [← hb]
    clear hb
    have hs2 := hsz
    rw [← hsz]
    clear hsz hs2
    obtain ⟨B3, hb⟩ : ∃ b, b = Y2.w.heap.size := ⟨_, rfl⟩
    have hloB3 : W.heap.size ≤ B3 := by rw [hb]; exact Y2.size
    have l3 : Lin (Y2.w.alloc (.cells #[.int .i64 0, .int .i64 0] 57)) B3 57 [.int .i64 0, .int .i64 0] := by rw [hb]; exact Lin.new _ _ [.int .i64 0, .int .i64 0]
    replace S := S.later (Later.new _ (.cells #[.int .i64 0, .int .i64 0] 57))
    rw [Later.new_w] at S
    replace l1 := l1.later (Later.new _ (.cells #[.int .i64 0, .int .i64 0] 57))
    rw [Later.new_w] at l1
    have hsz : (Y2.w.alloc (.cells #[.int .i64 0, .int .i64 0] 57)).heap.size = B3 + 1 := by rw [hb]; simp
    obtain ⟨Y4, hZ⟩ : ∃ Z : Later W, Z.w = Y2.w.alloc (.cells #[.int .i64 0, .int .i64 0] 57) := ⟨Y2.step (Later.new _ _), rfl⟩
    rw [← hZ] at S hsz l1 l3 ⊢
    clear hZ
    rw [← hb]
    clear hb
    have HSZ := Lib.hid hsz
    clear hsz
    refine (within_two one two 0 1000 _ _ _ (by rw [← HSZ.out]; simp [go_sem]) (by rw [← HSZ.out]; simp [go_sem]) (by omega)).mono ?_
    rintro e w' ⟨rfl, y, hw⟩
    rw [hw, HW1.out]
    obtain ⟨z, hz⟩ : ∃ z : Later Y4.w, z.w = y.w := ⟨(Later.new _ _).step y, rfl⟩
    rw [← hz]
    clear hw hz w' y
    replace l1 := l1.later z
    replace l3 := l3.later z
    replace S := S.later z
    obtain ⟨Y5, hZ⟩ : ∃ Z : Later W, Z.w = z.w := ⟨Y4.step (z), rfl⟩
    rw [← hZ] at S l1 l3 ⊢
    clear hZ
    clear z
    go_wp2_with fail
    refine (within_one both 0 mn _ _ _ (by simp [go_sem]) (by omega)).mono ?_
    rintro e w' ⟨rfl, y, hw⟩
    rw [hw, HW2.out]
    obtain ⟨z, hz⟩ : ∃ z : Later Y5.w, z.w = y.w := ⟨(Later.new _ _).step y, rfl⟩
    rw [← hz]
    clear hw hz w' y
    replace l1 := l1.later z
    replace l3 := l3.later z
    replace S := S.later z
    obtain ⟨Y6, hZ⟩ : ∃ Z : Later W, Z.w = z.w := ⟨Y5.step (z), rfl⟩
    rw [← hZ] at S l1 l3 ⊢
    clear hZ
    clear z
    have q0_0 := l1.cell (k := 0) rfl
    have q0_1 := l1.cell (k := 1) rfl
    have q0_l := l1.lt
    go_wp2_with fail
    clear q0_0 q0_1 q0_l
    refine (within_one den 1 1000 _ _ _ (by simp [go_sem]) (by omega)).mono ?_
    rintro e w' ⟨rfl, y, hw⟩
    rw [hw, HW3.out]
    obtain ⟨z, hz⟩ : ∃ z : Later Y6.w, z.w = y.w := ⟨(Later.new _ _).step y, rfl⟩
    rw [← hz]
    clear hw hz w' y
    replace l1 := l1.later z
    replace l3 := l3.later z
    replace S := S.later z
    obtain ⟨Y7, hZ⟩ : ∃ Z : Later W, Z.w = z.w := ⟨Y6.step (z), rfl⟩
    rw [← hZ] at S l1 l3 ⊢
    clear hZ
    clear z
    have q0_0 := l1.cell (k := 0) rfl
    have q0_1 := l1.cell (k := 1) rfl
    have q0_l := l1.lt
    go_wp2_with fail
    clear q0_0 q0_1 q0_l
    refine (within_one num 1 den _ _ _ (by simp [go_sem]) (by omega)).mono ?_
    rintro e w' ⟨rfl, y, hw⟩
    rw [hw, HW4.out]
    obtain ⟨z, hz⟩ : ∃ z : Later Y7.w, z.w = y.w := ⟨(Later.new _ _).step y, rfl⟩
    rw [← hz]
    clear hw hz w' y
    replace l1 := l1.later z
    replace l3 := l3.later z
    replace S := S.later z
    obtain ⟨Y8, hZ⟩ : ∃ Z : Later W, Z.w = z.w := ⟨Y7.step (z), rfl⟩
    rw [← hZ] at S l1 l3 ⊢
    clear hZ
    clear z
    have q_0 := l1.cell (k := 0) rfl
    have q_1 := l1.cell (k := 1) rfl
    have q_l := l1.lt
    have t0 := l3.cell (k := 0) rfl
    have t1' := l3.cell (k := 1) rfl
    have f0 := l3.frozen 0
    have f1 := l3.frozen 1
    have tl := l3.lt
    go_wp2
    refine bodyPost_ret (v := .tuple #[.agg #[.int .i64 0, .int .i64 0], .int .i64 14]) (by simp [results, Try.results43, go_sem, t0, t1']) rfl ?_
    refine ⟨⟨_, ((Y8.le.setCell (p := ⟨B3, 0, none⟩) hloB3 (.int .i64 0)).setCell (p := ⟨B3, 1, none⟩) hloB3 (.int .i64 0))⟩, by rw [HR.out.1, HR.out.2], rfl⟩
  · have HR := Lib.hid (uns_some (num := num) (den := den) hA hB (by rw [HMe.out]; omega))
    rw [HMe.out] at HR
    have hd : decide (M - (one + two - both) < 0) = false := decide_eq_false hl
    clear hA hB hl
    go_enter Try.func43, Try.ntmps43
    go_wp2_with fail
    obtain ⟨B1, hb⟩ : ∃ b, b = W.heap.size := ⟨_, rfl⟩
    have l1 : Lin (W.alloc (.cells #[.int .i64 num, .int .i64 den] 55)) B1 55 [.int .i64 num, .int .i64 den] := by rw [hb]; exact Lin.new _ _ [.int .i64 num, .int .i64 den]
    replace S := S.later (Later.new _ (.cells #[.int .i64 num, .int .i64 den] 55))
    rw [Later.new_w] at S
    have hsz : (W.alloc (.cells #[.int .i64 num, .int .i64 den] 55)).heap.size = B1 + 1 := by rw [hb]; simp
    obtain ⟨Y2, hZ⟩ : ∃ Z : Later W, Z.w = W.alloc (.cells #[.int .i64 num, .int .i64 den] 55) := ⟨Later.new _ _, rfl⟩
    rw [← hZ] at S hsz l1 ⊢
    clear hZ
    rw [← hb]
    clear hb
    have hs2 := hsz
    rw [← hsz]
    clear hsz hs2
    obtain ⟨B3, hb⟩ : ∃ b, b = Y2.w.heap.size := ⟨_, rfl⟩
    have hloB3 : W.heap.size ≤ B3 := by rw [hb]; exact Y2.size
    have l3 : Lin (Y2.w.alloc (.cells #[.int .i64 0, .int .i64 0] 57)) B3 57 [.int .i64 0, .int .i64 0] := by rw [hb]; exact Lin.new _ _ [.int .i64 0, .int .i64 0]
    replace S := S.later (Later.new _ (.cells #[.int .i64 0, .int .i64 0] 57))
    rw [Later.new_w] at S
    replace l1 := l1.later (Later.new _ (.cells #[.int .i64 0, .int .i64 0] 57))
    rw [Later.new_w] at l1
    have hsz : (Y2.w.alloc (.cells #[.int .i64 0, .int .i64 0] 57)).heap.size = B3 + 1 := by rw [hb]; simp
    obtain ⟨Y4, hZ⟩ : ∃ Z : Later W, Z.w = Y2.w.alloc (.cells #[.int .i64 0, .int .i64 0] 57) := ⟨Y2.step (Later.new _ _), rfl⟩
    rw [← hZ] at S hsz l1 l3 ⊢
    clear hZ
    rw [← hb]
    clear hb
    have HSZ := Lib.hid hsz
    clear hsz
    refine (within_two one two 0 1000 _ _ _ (by rw [← HSZ.out]; simp [go_sem]) (by rw [← HSZ.out]; simp [go_sem]) (by omega)).mono ?_
    rintro e w' ⟨rfl, y, hw⟩
    rw [hw, HW1.out]
    obtain ⟨z, hz⟩ : ∃ z : Later Y4.w, z.w = y.w := ⟨(Later.new _ _).step y, rfl⟩
    rw [← hz]
    clear hw hz w' y
    replace l1 := l1.later z
    replace l3 := l3.later z
    replace S := S.later z
    obtain ⟨Y5, hZ⟩ : ∃ Z : Later W, Z.w = z.w := ⟨Y4.step (z), rfl⟩
    rw [← hZ] at S l1 l3 ⊢
    clear hZ
    clear z
    go_wp2_with fail
    refine (within_one both 0 mn _ _ _ (by simp [go_sem]) (by omega)).mono ?_
    rintro e w' ⟨rfl, y, hw⟩
    rw [hw, HW2.out]
    obtain ⟨z, hz⟩ : ∃ z : Later Y5.w, z.w = y.w := ⟨(Later.new _ _).step y, rfl⟩
    rw [← hz]
    clear hw hz w' y
    replace l1 := l1.later z
    replace l3 := l3.later z
    replace S := S.later z
    obtain ⟨Y6, hZ⟩ : ∃ Z : Later W, Z.w = z.w := ⟨Y5.step (z), rfl⟩
    rw [← hZ] at S l1 l3 ⊢
    clear hZ
    clear z
    have q0_0 := l1.cell (k := 0) rfl
    have q0_1 := l1.cell (k := 1) rfl
    have q0_l := l1.lt
    go_wp2_with fail
    clear q0_0 q0_1 q0_l
    refine (within_one den 1 1000 _ _ _ (by simp [go_sem]) (by omega)).mono ?_
    rintro e w' ⟨rfl, y, hw⟩
    rw [hw, HW3.out]
    obtain ⟨z, hz⟩ : ∃ z : Later Y6.w, z.w = y.w := ⟨(Later.new _ _).step y, rfl⟩
    rw [← hz]
    clear hw hz w' y
    replace l1 := l1.later z
    replace l3 := l3.later z
    replace S := S.later z
    obtain ⟨Y7, hZ⟩ : ∃ Z : Later W, Z.w = z.w := ⟨Y6.step (z), rfl⟩
    rw [← hZ] at S l1 l3 ⊢
    clear hZ
    clear z
    have q0_0 := l1.cell (k := 0) rfl
    have q0_1 := l1.cell (k := 1) rfl
    have q0_l := l1.lt
    go_wp2_with fail
    clear q0_0 q0_1 q0_l
    refine (within_one num 1 den _ _ _ (by simp [go_sem]) (by omega)).mono ?_
    rintro e w' ⟨rfl, y, hw⟩
    rw [hw, HW4.out]
    obtain ⟨z, hz⟩ : ∃ z : Later Y7.w, z.w = y.w := ⟨(Later.new _ _).step y, rfl⟩
    rw [← hz]
    clear hw hz w' y
    replace l1 := l1.later z
    replace l3 := l3.later z
    replace S := S.later z
    obtain ⟨Y8, hZ⟩ : ∃ Z : Later W, Z.w = z.w := ⟨Y7.step (z), rfl⟩
    rw [← hZ] at S l1 l3 ⊢
    clear hZ
    clear z
    have q_0 := l1.cell (k := 0) rfl
    have q_1 := l1.cell (k := 1) rfl
    have q_l := l1.lt
    have t0 := l3.cell (k := 0) rfl
    have t1' := l3.cell (k := 1) rfl
    have f0 := l3.frozen 0
    have f1 := l3.frozen 1
    have tl := l3.lt
    go_wp2
    refine bodyPost_ret (v := .tuple #[.agg #[.int .i64 0, .int .i64 (M - (one + two - both))], .int .i64 0]) (by simp [results, Try.results43, go_sem, t0, t1']) rfl ?_
    refine ⟨⟨_, ((Y8.le.setCell (p := ⟨B3, 0, none⟩) hloB3 (.int .i64 0)).setCell (p := ⟨B3, 1, none⟩) hloB3 (.int .i64 (M - (one + two - both))))⟩, by rw [HR.out.1, HR.out.2], rfl⟩
end Go.Proofs.Ytpkgfkeekcgkcaa
