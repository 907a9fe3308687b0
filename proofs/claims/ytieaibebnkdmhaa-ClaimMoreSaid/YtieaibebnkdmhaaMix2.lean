/-
  The steps of a walk through a region that draws its order (over the law of the text before).
-/
import Derived.Test.YtieaibebnkdmhaaMix
namespace Go.Proofs.Ytieaibebnkdmhaa
open Go.RowKit
namespace Mix
section
variable {P : Program} {ops : Array Oper} {W0 : World} {cls : Nat → Cls} {Q : Act → World → Prop} {i : Nat} {rest : List Nat} {a : Act} {w : World} {o : Oper}

/-- Operations that can yield nothing but a value. -/
def valOp : Op → Bool
  | .move _ | .assign _ | .pick .. | .load .. | .binOp .. | .unOp .. | .fieldAddr .. | .field .. | .indexAddr .. | .index .. | .slice .. | .build .. | .extract .. | .lookup .. | .makeFunc .. | .convert .. | .makeInterface .. => true
  | .nilCheck _ => true
  | .call { callee := .builtin .len, .. } => true
  | _ => false

theorem run_v {s : Sem Value} {n : Next} {w w' : World} (h : (s >>= fun x => (pure (Next.value x) : Sem Next)).run P w = .ok n w') : ∃ u, n = .value u := by
  rw [Sem.run_bind] at h
  cases hs : s.run P w with
  | ok u w1 =>
    rw [hs] at h
    simp only [Result.andThen_ok, Sem.run_pure, Result.ok.injEq] at h
    exact ⟨u, h.1.symm⟩
  | halt x w1 => rw [hs] at h; cases h

theorem valOp_run {o : Oper} (hv : valOp o.op = true) {ρ : Operand → Value} {n : Next} {w w' : World} (h : (execOp ρ o).run P w = .ok n w') : ∃ u, n = .value u := by
  obtain ⟨dst, op, ty, pos, after, guard⟩ := o
  cases op <;> simp only [valOp] at hv <;> simp only [execOp] at h
  case move x => simp only [Sem.run_pure, Result.ok.injEq] at h; exact ⟨_, h.1.symm⟩
  case assign x => simp only [Sem.run_pure, Result.ok.injEq] at h; exact ⟨_, h.1.symm⟩
  case pick c x y =>
    rw [Sem.run_bind] at h
    cases hs : (asBool (ρ c)).run P w with
    | ok u w1 =>
      rw [hs] at h
      simp only [Result.andThen_ok, Sem.run_pure, Result.ok.injEq] at h
      exact ⟨_, h.1.symm⟩
    | halt x w1 => rw [hs] at h; cases h
  case nilCheck x =>
    generalize ρ x = v at h
    split at h
    · cases h
    · cases h
    · cases h
    · split at h
      · cases h
      · rename_i t w0 _
        rw [Sem.run_bind] at h
        cases hs : (program : Sem Program).run P w with
        | ok q w1 =>
          rw [hs, Result.andThen_ok, Sem.run_bind] at h
          generalize (nilAhead _ t w0 _).run P w1 = r at h
          cases r with
          | ok q2 w2 =>
            simp only [Result.andThen_ok] at h
            split at h
            · exact absurd h (by simp [unsupported, Sem.run, Result.andThen])
            · simp only [Sem.run_pure, Result.ok.injEq] at h; exact ⟨_, h.1.symm⟩
          | halt x w2 => cases h
        | halt x w1 => rw [hs] at h; cases h
      · simp only [Sem.run_pure, Result.ok.injEq] at h; exact ⟨_, h.1.symm⟩
    · simp only [Sem.run_pure, Result.ok.injEq] at h; exact ⟨_, h.1.symm⟩
  case call c =>
    obtain ⟨callee, args, tys⟩ := c
    cases callee
    case builtin b =>
      cases b
      case len =>
        simp only [resolve, Sem.run_bind, Sem.run_pure, Result.andThen_ok, invoke, builtin] at h
        exact run_v (s := Builtin.len_ _ _ _) (by rw [Sem.run_bind]; exact h)
      all_goals cases hv
    all_goals cases hv
  all_goals first | exact run_v h | cases hv

/-- The same, of the operations themselves in the order of the text. -/
def GoodL (P : Program) (ops : Array Oper) (W0 : World) (cls : Nat → Cls) (Q : Act → World → Prop) : Nat → List Oper → Act → World → Prop
  | _, [], a, w => ∀ x : Later w, Q a x.w
  | i, o :: rest, a, w =>
      (Region.wanted o (yielded ops a.tmps) = true ∧ cls i = .loud ∧ ∀ x : Later w, o.wp P a x.w (fun a' w' => (∃ y : Later x.w, w' = y.w) ∧ GoodL P ops W0 cls Q (i + 1) rest a' w') F3) ∨
      ((Region.wanted o (yielded ops a.tmps) = true → cls i = .val) ∧ ∃ v, YieldsIf P ops (C0 W0) o v a ∧ GoodL P ops W0 cls Q (i + 1) rest (a.put o.dst v) w) ∨
      (Region.wanted o (yielded ops a.tmps) = true ∧ cls i = .new ∧ ∃ mk ob, AllocAs P o a mk ob ∧
        ∀ (b : Nat) (x : Later w), W0.heap.size ≤ b → x.w.heap[b]? = some ob → GoodL P ops W0 cls Q (i + 1) rest (a.put o.dst (mk b)) x.w) ∨
      (Region.wanted o (yielded ops a.tmps) = true ∧ cls i = .last ∧ (∀ j, j < rest.length → cls (i + 1 + j) = .last) ∧ ∀ x : Later w, o.wp P a x.w (fun a' w' => GoodL P ops W0 cls Q (i + 1) rest a' w') F3)

theorem good_of_goodL : ∀ (l : List Oper) (k : Nat) (a : Act) (w : World), (∀ j, l[j]? = ops[k + j]?) → GoodL P ops W0 cls Q k l a w → Good P ops W0 cls Q (List.range' k l.length) a w
  | [], _, _, _, _, h => h
  | o :: l, k, a, w, hl, h => by
    have h0 : ops[k]? = some o := by simpa using (hl 0).symm
    have hl' : ∀ j, l[j]? = ops[k + 1 + j]? := fun j => by have := hl (j + 1); simpa [Nat.add_assoc, Nat.add_comm 1 j] using this
    have ih := fun a w => good_of_goodL l (k + 1) a w hl'
    rw [List.length_cons, List.range'_succ]
    intro o' ho'
    obtain rfl : o = o' := Option.some.inj (h0.symm.trans ho')
    rcases h with ⟨h1, h2, h3⟩ | ⟨h1, v, h2, h3⟩ | ⟨h1, h2, mk, ob, h3, h4⟩ | ⟨h1, h2, hl2, h3⟩
    · exact .inl ⟨h1, h2, fun x => Oper.wp_mono (fun a' w' hh => ⟨hh.1, ih a' w' hh.2⟩) (h3 x)⟩
    · exact .inr (.inl ⟨h1, v, h2, ih _ _ h3⟩)
    · exact .inr (.inr (.inl ⟨h1, h2, mk, ob, h3, fun b x hb hx => ih _ _ (h4 b x hb hx)⟩))
    · exact .inr (.inr (.inr ⟨h1, h2, fun j hj => by
        obtain ⟨q, hq, rfl⟩ := List.mem_range'.1 hj
        simpa using hl2 q hq, fun x => Oper.wp_mono (fun a' w' hh => ih a' w' hh) (h3 x)⟩))

/-- **A region that draws its order, walked once, in the order of its text.** -/
theorem region_mixL {id : Nat} {Q' : Exit → Act → World → Prop} {a : Act} {w : World} {l : List Oper} (cls : Nat → Cls) (hm : P.follows .mixedOrders = true)
    (hB : mixB l.toArray (List.range' 0 l.length) cls = true) (h : GoodL P l.toArray w cls (fun a w => Q' .normal a w) 0 l a w) : (Code.region id l.toArray true).wp P Q' a w :=
  region_mix (List.range' 0 l.length) cls hm hB (good_of_goodL l 0 a w (fun j => by simp) h)

variable {rest : List Oper}
theorem skip (hw : Region.wanted o (yielded ops a.tmps) = false) (h : GoodL P ops W0 cls Q (i + 1) rest (a.put o.dst undef) w) : GoodL P ops W0 cls Q i (o :: rest) a w :=
  .inr (.inl ⟨fun h1 => (by rw [hw] at h1; cases h1), undef, .inr ⟨hw, rfl⟩, h⟩)

theorem val (hc : cls i = .val) (hv : valOp o.op = true) (hw : Region.wanted o (yielded ops a.tmps) = true)
    (h : ∀ K : Act → Prop, (∀ a', GoodL P ops W0 cls Q (i + 1) rest a' w → K a') → o.quiet P a (fun w' => ∃ x : Later W0, w' = x.w) K) : GoodL P ops W0 cls Q i (o :: rest) a w := by
  obtain ⟨v, h1, h2⟩ := h (fun a' => GoodL P ops W0 cls Q (i + 1) rest a' w) (fun _ h => h)
  refine .inr (.inl ⟨fun _ => hc, v, .inl ⟨hw, fun w' hw' => ?_⟩, h2⟩)
  have h3 := h1 w' hw'
  unfold Oper.quietAt at h3
  cases hr : (execOp a.eval o).run P w' with
  | ok n w1 =>
    obtain ⟨u, rfl⟩ := valOp_run hv hr
    rw [hr] at h3
    simp only [Oper.quietUpon] at h3
    rw [h3.1, h3.2]
  | halt x w1 => rw [hr] at h3; exact h3.elim

theorem loud (hc : cls i = .loud) (hw : Region.wanted o (yielded ops a.tmps) = true)
    (h : ∀ (x : Later w) (K : Act → World → Prop), (∀ (a' : Act) (y : Later x.w), GoodL P ops W0 cls Q (i + 1) rest a' y.w → K a' y.w) → o.wp P a x.w K F3) : GoodL P ops W0 cls Q i (o :: rest) a w :=
  .inl ⟨hw, hc, fun x => h x _ (fun _ y hg => ⟨⟨y, rfl⟩, hg⟩)⟩

theorem new (hc : cls i = .new) (hw : Region.wanted o (yielded ops a.tmps) = true) (mk : Nat → Value) (ob : Obj) (hal : AllocAs P o a mk ob)
    (h : ∀ (b : Nat) (x : Later w), W0.heap.size ≤ b → x.w.heap[b]? = some ob → GoodL P ops W0 cls Q (i + 1) rest (a.put o.dst (mk b)) x.w) : GoodL P ops W0 cls Q i (o :: rest) a w :=
  .inr (.inr (.inl ⟨hw, hc, mk, ob, hal, h⟩))

theorem last (hc : cls i = .last) (hw : Region.wanted o (yielded ops a.tmps) = true)
    (h : ∀ (x : Later w) (K : Act → World → Prop), (∀ (a' : Act) (w' : World), GoodL P ops W0 cls Q (i + 1) [] a' w' → K a' w') → o.wp P a x.w K F3) : GoodL P ops W0 cls Q i [o] a w :=
  .inr (.inr (.inr ⟨hw, hc, fun _ hj => absurd hj (Nat.not_lt_zero _), fun x => h x _ (fun _ _ hg => hg)⟩))
/-- an operation that may change what was there: behind it come such alone -/
theorem lastR (hc : cls i = .last) (hw : Region.wanted o (yielded ops a.tmps) = true) (hr : ∀ j, j < rest.length → cls (i + 1 + j) = .last)
    (h : ∀ (x : Later w) (K : Act → World → Prop), (∀ (a' : Act) (w' : World), GoodL P ops W0 cls Q (i + 1) rest a' w' → K a' w') → o.wp P a x.w K F3) : GoodL P ops W0 cls Q i (o :: rest) a w :=
  .inr (.inr (.inr ⟨hw, hc, hr, fun x => h x _ (fun _ _ hg => hg)⟩))

theorem put_undef {a : Act} {d : Tmp} (h : a.tmps.getD d undef = undef) : a.put (some d) undef = a := by
  obtain ⟨ts, ds⟩ := a
  simp only [Act.put, Act.mk.injEq, and_true]
  apply Array.ext_getElem?
  intro j
  by_cases hj : d = j
  · subst hj
    rw [Array.getElem?_setIfInBounds]
    by_cases hlt : d < ts.size
    · simp only [Array.getD_eq_getD_getElem?, hlt, getElem?_pos, Option.getD_some] at h
      simp [hlt, h]
    · simp [hlt]
  · rw [Array.getElem?_setIfInBounds_ne hj]
/-- .. is passed over, and its slot holds nothing. -/
theorem skipU {d : Tmp} (hw : Region.wanted o (yielded ops a.tmps) = false) (hd : o.dst = some d) (hu : a.tmps.getD d undef = undef) (h : GoodL P ops W0 cls Q (i + 1) rest a w) : GoodL P ops W0 cls Q i (o :: rest) a w :=
  skip hw (by rw [hd, put_undef hu]; exact h)
/-- There is one more. -/
theorem atCons (h : GoodL P ops W0 cls Q i (o :: rest) a w) : GoodL P ops W0 cls Q i (o :: rest) a w := h
/-- the kinds of operations, by three lists of numbers -/
def kinds (news louds lasts : List Nat) (i : Nat) : Cls := if louds.contains i then .loud else if news.contains i then .new else if lasts.contains i then .last else .val
theorem done (h : ∀ x : Later w, Q a x.w) : GoodL P ops W0 cls Q i [] a w := h
end
end Mix
end Go.Proofs.Ytieaibebnkdmhaa
