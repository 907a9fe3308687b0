/-
  A region that draws its order of evaluation, walked once in the order of its text: its operations yield the same in every later world, or make a new block, or are ordered among each other by the region's own edges. Plain law over any program.
-/
import Derived.Test.YtieaibebnkdmhaaBase
import Derived.OrdersHeld
namespace Go.Proofs.Ytieaibebnkdmhaa
open Go.RowKit
namespace Mix
section
variable {P : Program} {ops : Array Oper}

def F3 : Exit → Act → World → Prop := fun _ _ _ => False

theorem wp_put_out {o : Oper} {a : Act} {w : World} {d : Option Tmp} {v : Value} {K : Act → World → Prop} (hs : ∀ cs b, o.op ≠ .select cs b)
    (h1 : ∀ t, d = some t → t ∉ o.looksAt ops) (h2 : ∀ t, d = some t → o.dst ≠ some t) (h : o.wp P (a.put d v) w K F3) :
    o.wp P a w (fun a' w' => K (a'.put d v) w') F3 := by
  unfold Oper.wp at *
  rw [execOp_put o hs a d v h1] at h
  generalize (execOp a.eval o).run P w = r at *
  cases r with
  | ok n w' =>
    cases n <;> simp only [Oper.upon] at h ⊢
    case value u => rw [← Act.put_comm a v u h2]; exact h
    case skip => rw [← Act.put_comm a v undef h2]; exact h
    case defer q => rw [← Act.put_comm _ v undef h2, ← Act.put_defers]; exact h
    case enter f args =>
      refine Calls.mono h fun e w'' he => ?_
      cases e with
      | returned u => show K _ _; rw [← Act.put_comm a v u h2]; exact he
      | panicked c => exact he
      | outgrown => exact he
    case row row args => exact Rows.mono h fun u w'' he => by show K _ _; rw [← Act.put_comm a v u h2]; exact he
  | halt x w' => cases x <;> simp only [Oper.upon] at h ⊢ <;> exact h

theorem wp_put_in {o : Oper} {a : Act} {w : World} {d : Option Tmp} {v : Value} {K : Act → World → Prop} (hs : ∀ cs b, o.op ≠ .select cs b)
    (h1 : ∀ t, d = some t → t ∉ o.looksAt ops) (h2 : ∀ t, d = some t → o.dst ≠ some t) (h : o.wp P a w (fun a' w' => K (a'.put d v) w') F3) :
    o.wp P (a.put d v) w K F3 := by
  unfold Oper.wp at *
  rw [execOp_put o hs a d v h1]
  generalize (execOp a.eval o).run P w = r at *
  cases r with
  | ok n w' =>
    cases n <;> simp only [Oper.upon] at h ⊢
    case value u => rw [Act.put_comm a v u h2]; exact h
    case skip => rw [Act.put_comm a v undef h2]; exact h
    case defer q => rw [Act.put_defers, Act.put_comm _ v undef h2]; exact h
    case enter f args =>
      refine Calls.mono h fun e w'' he => ?_
      cases e with
      | returned u => show K _ _; rw [Act.put_comm a v u h2]; exact he
      | panicked c => exact he
      | outgrown => exact he
    case row row args => exact Rows.mono h fun u w'' he => by show K _ _; rw [Act.put_comm a v u h2]; exact he
  | halt x w' => cases x <;> simp only [Oper.upon] at h ⊢ <;> exact h

/-- What an operation comes to, once. -/
theorem wp_witness {o : Oper} {a : Act} {w : World} {K : Act → World → Prop} (h : o.wp P a w K F3) : ∃ ds u w', K (({ a with defers := ds } : Act).put o.dst u) w' := by
  unfold Oper.wp at h
  generalize (execOp a.eval o).run P w = r at *
  cases r with
  | ok n w' =>
    cases n <;> simp only [Oper.upon] at h
    case value u => exact ⟨a.defers, u, w', h⟩
    case skip => exact ⟨a.defers, undef, w', h⟩
    case defer q => exact ⟨_, undef, w', h⟩
    case enter f args =>
      obtain ⟨e, w'', fr, he, _⟩ := h []
      cases e with
      | returned u => exact ⟨a.defers, u, w'', he⟩
      | panicked c => exact he.elim
      | outgrown => obtain ⟨_, _, h⟩ := he; exact h.elim
    case row row args =>
      obtain ⟨u, w'', he, _⟩ := h default []
      exact ⟨a.defers, u, w'', he⟩
  | halt x w' => cases x <;> simp only [Oper.upon] at h <;> exact h.elim

theorem wp_mono_act {o : Oper} {a : Act} {w : World} {K K' : Act → World → Prop} (h : o.wp P a w K F3)
    (hk : ∀ ds u w', K (({ a with defers := ds } : Act).put o.dst u) w' → K' (({ a with defers := ds } : Act).put o.dst u) w') : o.wp P a w K' F3 := by
  unfold Oper.wp at *
  generalize (execOp a.eval o).run P w = r at *
  cases r with
  | ok n w' =>
    cases n <;> simp only [Oper.upon] at h ⊢
    case value u => exact hk a.defers u _ h
    case skip => exact hk a.defers undef _ h
    case defer q => exact hk _ undef _ h
    case enter f args =>
      refine Calls.mono h fun e w'' he => ?_
      cases e with
      | returned u => exact hk a.defers u _ he
      | panicked c => exact he
      | outgrown => exact he
    case row row args => exact Rows.mono h fun u w'' he => hk a.defers u _ he
  | halt x w' => cases x <;> simp only [Oper.upon] at h ⊢ <;> exact h

theorem wp_of_F3 {o : Oper} {a : Act} {w : World} {K : Act → World → Prop} {Q' : Exit → Act → World → Prop} (h : o.wp P a w K F3) : o.wp P a w K Q' := by
  unfold Oper.wp at *
  generalize (execOp a.eval o).run P w = r at *
  cases r with
  | ok n w' =>
    cases n <;> simp only [Oper.upon] at h ⊢
    case value u => exact h
    case skip => exact h
    case defer q => exact h
    case enter f args =>
      refine Calls.mono h fun e w'' he => ?_
      cases e with
      | returned u => exact he
      | panicked c => exact he.elim
      | outgrown => obtain ⟨_, _, h⟩ := he; exact h.elim
    case row row args => exact h
  | halt x w' => cases x <;> simp only [Oper.upon] at h ⊢ <;> exact h.elim

/-- An operation that makes one new block, and yields what points at it. -/
def AllocAs (P : Program) (o : Oper) (a : Act) (mk : Nat → Value) (ob : Obj) : Prop := ∀ w : World, (execOp a.eval o).run P w = .ok (.value (mk w.heap.size)) (w.alloc ob)

inductive Cls where
  | val | new | loud | last
  deriving DecidableEq

def C0 (W0 : World) (w : World) : Prop := ∃ x : Later W0, w = x.w

def Good (P : Program) (ops : Array Oper) (W0 : World) (cls : Nat → Cls) (Q : Act → World → Prop) : List Nat → Act → World → Prop
  | [], a, w => ∀ x : Later w, Q a x.w
  | i :: rest, a, w => ∀ o, ops[i]? = some o →
      (Region.wanted o (yielded ops a.tmps) = true ∧ cls i = .loud ∧ ∀ x : Later w, o.wp P a x.w (fun a' w' => (∃ y : Later x.w, w' = y.w) ∧ Good P ops W0 cls Q rest a' w') F3) ∨
      ((Region.wanted o (yielded ops a.tmps) = true → cls i = .val) ∧ ∃ v, YieldsIf P ops (C0 W0) o v a ∧ Good P ops W0 cls Q rest (a.put o.dst v) w) ∨
      (Region.wanted o (yielded ops a.tmps) = true ∧ cls i = .new ∧ ∃ mk ob, AllocAs P o a mk ob ∧
        ∀ (b : Nat) (x : Later w), W0.heap.size ≤ b → x.w.heap[b]? = some ob → Good P ops W0 cls Q rest (a.put o.dst (mk b)) x.w) ∨
      (Region.wanted o (yielded ops a.tmps) = true ∧ cls i = .last ∧ (∀ j ∈ rest, cls j = .last) ∧ ∀ x : Later w, o.wp P a x.w (fun a' w' => Good P ops W0 cls Q rest a' w') F3)

variable {W0 : World} {cls : Nat → Cls} {Q : Act → World → Prop}

theorem Good.later : ∀ {l : List Nat} {a : Act} {w : World}, Good P ops W0 cls Q l a w → ∀ x : Later w, Good P ops W0 cls Q l a x.w
  | [], _, _, h, x => fun y => h (x.step y)
  | i :: rest, a, w, h, x => fun o ho => by
    rcases h o ho with ⟨h1, h2, h3⟩ | ⟨h1, v, h2, h3⟩ | ⟨h1, h2, mk, ob, h3, h4⟩ | ⟨h1, h2, h3, h4⟩
    · exact .inl ⟨h1, h2, fun y => h3 (x.step y)⟩
    · exact .inr (.inl ⟨h1, v, h2, h3.later x⟩)
    · exact .inr (.inr (.inl ⟨h1, h2, mk, ob, h3, fun b y hb hy => h4 b (x.step y) hb hy⟩))
    · exact .inr (.inr (.inr ⟨h1, h2, h3, fun y => h4 (x.step y)⟩))

theorem C0.self (W0 : World) : C0 W0 W0 := ⟨Later.self _, rfl⟩
theorem C0.later {w : World} (h : C0 W0 w) (x : Later w) : C0 W0 x.w := by
  obtain ⟨y, rfl⟩ := h
  exact ⟨y.step x, rfl⟩
theorem C0.size {w : World} (h : C0 W0 w) : W0.heap.size ≤ w.heap.size := by
  obtain ⟨y, rfl⟩ := h
  exact y.size

theorem yieldsIf_unique {o : Oper} {a : Act} {v v' : Value} (h : YieldsIf P ops (C0 W0) o v a) (h' : YieldsIf P ops (C0 W0) o v' a) : v = v' := by
  rcases h with ⟨h1, h2⟩ | ⟨h1, rfl⟩ <;> rcases h' with ⟨h1', h2'⟩ | ⟨h1', rfl⟩
  · have e1 := h2 W0 (C0.self _)
    have e2 := h2' W0 (C0.self _)
    rw [e1] at e2
    cases e2; rfl
  · rw [h1] at h1'; cases h1'
  · rw [h1] at h1'; cases h1'
  · rfl

theorem yieldsIf_put {o : Oper} {a : Act} {v u : Value} {d : Option Tmp} (hs : ∀ cs b, o.op ≠ .select cs b) (h1 : ∀ t, d = some t → t ∉ o.looksAt ops) :
    YieldsIf P ops (C0 W0) o v (a.put d u) ↔ YieldsIf P ops (C0 W0) o v a := by
  unfold YieldsIf
  rw [execOp_put o hs a d u h1, wanted_put o a d u h1]

theorem allocAs_put {o : Oper} {a : Act} {u : Value} {d : Option Tmp} {mk : Nat → Value} {ob : Obj} (hs : ∀ cs b, o.op ≠ .select cs b) (h1 : ∀ t, d = some t → t ∉ o.looksAt ops) :
    AllocAs P o (a.put d u) mk ob ↔ AllocAs P o a mk ob := by
  unfold AllocAs
  rw [execOp_put o hs a d u h1]

theorem size_any (n : Nat) : ∃ w : World, w.heap.size = n := ⟨{ (default : World) with heap := Array.replicate n default }, by simp⟩

theorem allocAs_unique {o : Oper} {a : Act} {mk mk' : Nat → Value} {ob ob' : Obj} (h : AllocAs P o a mk ob) (h' : AllocAs P o a mk' ob') : (∀ n, mk n = mk' n) ∧ ob = ob' := by
  refine ⟨fun n => ?_, ?_⟩
  · obtain ⟨w, rfl⟩ := size_any n
    have e := (h w).symm.trans (h' w)
    simp only [Result.ok.injEq, Next.value.injEq] at e
    exact e.1
  · have e := (h default).symm.trans (h' default)
    simp only [Result.ok.injEq] at e
    have e2 := congrArg World.heap e.2
    simp only [World.alloc] at e2
    exact (Array.push_eq_push.1 e2).1

/-- What is pulled ahead of the rest. -/
def Pulled (P : Program) (ops : Array Oper) (W0 : World) (cls : Nat → Cls) (Q : Act → World → Prop) (i : Nat) (o : Oper) (l : List Nat) (a : Act) (w : World) : Prop :=
  (Region.wanted o (yielded ops a.tmps) = true ∧ cls i = .loud ∧ ∀ x : Later w, o.wp P a x.w (fun a' w' => (∃ y : Later x.w, w' = y.w) ∧ Good P ops W0 cls Q l a' w') F3) ∨
  ((Region.wanted o (yielded ops a.tmps) = true → cls i = .val) ∧ ∃ v, YieldsIf P ops (C0 W0) o v a ∧ Good P ops W0 cls Q l (a.put o.dst v) w) ∨
  (Region.wanted o (yielded ops a.tmps) = true ∧ cls i = .new ∧ ∃ mk ob, AllocAs P o a mk ob ∧
    ∀ (b : Nat) (x : Later w), W0.heap.size ≤ b → x.w.heap[b]? = some ob → Good P ops W0 cls Q l (a.put o.dst (mk b)) x.w) ∨
  (Region.wanted o (yielded ops a.tmps) = true ∧ cls i = .last ∧ (∀ j ∈ l, cls j = .last) ∧ ∀ x : Later w, o.wp P a x.w (fun a' w' => Good P ops W0 cls Q l a' w') F3)

theorem wanted_defers (o : Oper) (a : Act) (ds : List Deferred) : Region.wanted o (yielded ops ({ a with defers := ds } : Act).tmps) = Region.wanted o (yielded ops a.tmps) := rfl

theorem pull {i : Nat} {oi : Oper} (hoi : ops[i]? = some oi) (hsel : ∀ (j : Nat) (o : Oper) cs b, ops[j]? = some o → o.op ≠ .select cs b) :
    ∀ (l1 l2 : List Nat) (a : Act) (w : World), (l1 ≠ [] → C0 W0 w) → (∀ k ∈ l1, ∃ ok, ops[k]? = some ok ∧ ok.apart ops oi = true ∧ (cls k ≠ .val → cls i ≠ .loud) ∧ cls i ≠ .last) →
      Good P ops W0 cls Q (l1 ++ i :: l2) a w → Pulled P ops W0 cls Q i oi (l1 ++ l2) a w
  | [], l2, a, w, _, _, h => h oi hoi
  | k :: l1, l2, a, w, hw, hap, h => by
    have hw := hw (by simp)
    have hsi := fun cs b => hsel i oi cs b hoi
    obtain ⟨ok, hok, hapk, hcl, hla⟩ := hap k (by simp)
    have hsk := fun cs b => hsel k ok cs b hok
    obtain ⟨hA, hB, hC⟩ := Oper.apart_spec hapk
    -- hA: k's slot is not looked at by i; hB: other slots; hC: i's slot is not looked at by k
    have hB' : ∀ t, oi.dst = some t → ok.dst ≠ some t := fun t ht hk => hB t hk ht
    have ih := fun (a : Act) (w : World) (hw : C0 W0 w) => pull hoi hsel l1 l2 a w (fun _ => hw) (fun k' hk' => hap k' (by simp [hk']))
    have wi : ∀ (a : Act) u, Region.wanted oi (yielded ops (a.put ok.dst u).tmps) = Region.wanted oi (yielded ops a.tmps) := fun a u => wanted_put oi a ok.dst u hA
    have wk : ∀ (a : Act) u, Region.wanted ok (yielded ops (a.put oi.dst u).tmps) = Region.wanted ok (yielded ops a.tmps) := fun a u => wanted_put ok a oi.dst u hC
    rcases h ok hok with ⟨k1, k2, k3⟩ | ⟨k1, vk, k2, k3⟩ | ⟨k1, k2, mk, ob, k3, k4⟩ | ⟨_, _, k3, _⟩
    · -- k is loud
      have hil : cls i ≠ .loud := hcl (by rw [k2]; simp)
      obtain ⟨ds, u, w1, ⟨y1, hy1⟩, hg⟩ := wp_witness (k3 (Later.self w))
      have hw1 : C0 W0 w1 := by rw [hy1]; exact (hw.later (Later.self w)).later y1
      rcases ih _ _ hw1 hg with ⟨_, i2, _⟩ | ⟨i1, v, i2, _⟩ | ⟨i1, i2, mk, ob, i3, _⟩ | ⟨_, i2, _⟩
      rotate_left 3
      · exact absurd i2 hla
      · exact absurd i2 hil
      · refine .inr (.inl ⟨fun hwn => i1 (by rw [wi]; exact hwn), v, ?_, ?_⟩)
        · exact (yieldsIf_put (a := { a with defers := ds }) hsi hA).1 i2
        · have hyi : YieldsIf P ops (C0 W0) oi v a := (yieldsIf_put (a := { a with defers := ds }) hsi hA).1 i2
          intro o ho
          obtain rfl : ok = o := Option.some.inj (hok.symm.trans ho)
          refine .inl ⟨by rw [wk]; exact k1, k2, fun x => wp_put_in hsk hC hB' ?_⟩
          refine wp_mono_act (k3 x) ?_
          rintro ds' u' w' ⟨⟨y, hy⟩, hg'⟩
          refine ⟨⟨y, hy⟩, ?_⟩
          have hw' : C0 W0 w' := by rw [hy]; exact (hw.later x).later y
          rcases ih _ _ hw' hg' with ⟨_, j2, _⟩ | ⟨j1, v', j2, j3⟩ | ⟨j1, j2, _⟩ | ⟨_, j2, _⟩
          rotate_left 3
          · exact absurd j2 hla
          · exact absurd j2 hil
          · have e : v = v' := yieldsIf_unique hyi ((yieldsIf_put (a := { a with defers := ds' }) hsi hA).1 j2)
            rw [e]; exact j3
          · rw [wi] at j1
            exact absurd (i1 (by rw [wi]; exact j1)) (by rw [j2]; simp)
      · refine .inr (.inr (.inl ⟨by rw [wi] at i1; exact i1, i2, mk, ob, (allocAs_put (a := { a with defers := ds }) hsi hA).1 i3, ?_⟩))
        have hai : AllocAs P oi a mk ob := (allocAs_put (a := { a with defers := ds }) hsi hA).1 i3
        intro b x hb hx o ho
        obtain rfl : ok = o := Option.some.inj (hok.symm.trans ho)
        refine .inl ⟨by rw [wk]; exact k1, k2, fun x2 => wp_put_in hsk hC hB' ?_⟩
        refine wp_mono_act (k3 (x.step x2)) ?_
        rintro ds' u' w' ⟨⟨y, hy⟩, hg'⟩
        refine ⟨⟨y, hy⟩, ?_⟩
        have hw' : C0 W0 w' := by rw [hy]; exact (hw.later (x.step x2)).later y
        have hbw : w'.heap[b]? = some ob := by
          have hlt : b < x.w.heap.size := (Array.getElem?_eq_some_iff.1 hx).1
          rw [hy]
          exact (y.le.block b (Nat.lt_of_lt_of_le hlt x2.size)).trans ((x2.le.block b hlt).trans hx)
        rcases ih _ _ hw' hg' with ⟨_, j2, _⟩ | ⟨j1, v', j2, j3⟩ | ⟨j1, j2, mk', ob', j3, j4⟩ | ⟨_, j2, _⟩
        rotate_left 3
        · exact absurd j2 hla
        · exact absurd j2 hil
        · have hwn : Region.wanted oi (yielded ops a.tmps) = true := by rw [wi] at i1; exact i1
          exact absurd (j1 (by rw [wi]; exact hwn)) (by rw [i2]; simp)
        · obtain ⟨e1, e2⟩ := allocAs_unique hai ((allocAs_put (a := { a with defers := ds' }) hsi hA).1 j3)
          rw [e1 b]
          exact j4 b (Later.self _) hb (by rw [← e2]; exact hbw)
    · -- k yields a value
      rcases ih _ _ hw k3 with ⟨i1, i2, i3⟩ | ⟨i1, v, i2, i3⟩ | ⟨i1, i2, mk, ob, i3, i4⟩ | ⟨_, i2, _⟩
      rotate_left 3
      · exact absurd i2 hla
      · refine .inl ⟨by rw [wi] at i1; exact i1, i2, fun x => ?_⟩
        refine wp_mono_act (wp_put_out hsi hA (fun t ht => hB t ht) (i3 x)) ?_
        rintro ds' u' w' ⟨hy, hg'⟩
        refine ⟨hy, fun o ho => ?_⟩
        obtain rfl : ok = o := Option.some.inj (hok.symm.trans ho)
        exact .inr (.inl ⟨fun hwn => k1 (by rw [wk] at hwn; exact hwn), vk, (yieldsIf_put (a := { a with defers := ds' }) hsk hC).2 k2, hg'⟩)
      · refine .inr (.inl ⟨fun hwn => i1 (by rw [wi]; exact hwn), v, (yieldsIf_put hsi hA).1 i2, fun o ho => ?_⟩)
        obtain rfl : ok = o := Option.some.inj (hok.symm.trans ho)
        refine .inr (.inl ⟨fun hwn => k1 (by rw [wk] at hwn; exact hwn), vk, (yieldsIf_put hsk hC).2 k2, ?_⟩)
        rw [← Act.put_comm a vk v hB]
        exact i3
      · refine .inr (.inr (.inl ⟨by rw [wi] at i1; exact i1, i2, mk, ob, (allocAs_put hsi hA).1 i3, fun b x hb hx o ho => ?_⟩))
        obtain rfl : ok = o := Option.some.inj (hok.symm.trans ho)
        refine .inr (.inl ⟨fun hwn => k1 (by rw [wk] at hwn; exact hwn), vk, (yieldsIf_put hsk hC).2 k2, ?_⟩)
        rw [← Act.put_comm a vk (mk b) hB]
        exact i4 b x hb hx
    · -- k makes a block
      have first := ih _ _ (hw.later (Later.new w ob)) (k4 w.heap.size (Later.new w ob) hw.size (heap_alloc_new w ob))
      rcases first with ⟨i1, i2, _⟩ | ⟨i1, v, i2, _⟩ | ⟨i1, i2, mi, obi, i3, _⟩ | ⟨_, i2, _⟩
      rotate_left 3
      · exact absurd i2 hla
      · exact absurd i2 (hcl (by rw [k2]; simp))
      · have hyi : YieldsIf P ops (C0 W0) oi v a := (yieldsIf_put hsi hA).1 i2
        refine .inr (.inl ⟨fun hwn => i1 (by rw [wi]; exact hwn), v, hyi, fun o ho => ?_⟩)
        obtain rfl : ok = o := Option.some.inj (hok.symm.trans ho)
        refine .inr (.inr (.inl ⟨by rw [wk]; exact k1, k2, mk, ob, (allocAs_put hsk hC).2 k3, fun b x hb hx => ?_⟩))
        rcases ih _ _ (hw.later x) (k4 b x hb hx) with ⟨j1, j2, _⟩ | ⟨j1, v', j2, j3⟩ | ⟨j1, j2, _⟩ | ⟨_, j2, _⟩
        rotate_left 3
        · exact absurd j2 hla
        · rw [wi] at j1
          exact absurd (i1 (by rw [wi]; exact j1)) (by rw [j2]; simp)
        · have e : v = v' := yieldsIf_unique hyi ((yieldsIf_put hsi hA).1 j2)
          rw [← Act.put_comm a (mk b) v hB, e]
          exact j3
        · rw [wi] at j1
          exact absurd (i1 (by rw [wi]; exact j1)) (by rw [j2]; simp)
      · have hai : AllocAs P oi a mi obi := (allocAs_put hsi hA).1 i3
        have hwn : Region.wanted oi (yielded ops a.tmps) = true := by rw [wi] at i1; exact i1
        refine .inr (.inr (.inl ⟨hwn, i2, mi, obi, hai, fun b x hb hx o ho => ?_⟩))
        obtain rfl : ok = o := Option.some.inj (hok.symm.trans ho)
        refine .inr (.inr (.inl ⟨by rw [wk]; exact k1, k2, mk, ob, (allocAs_put hsk hC).2 k3, fun b' x' hb' hx' => ?_⟩))
        rcases ih _ _ (hw.later (x.step x')) (k4 b' (x.step x') hb' hx') with ⟨_, j2, _⟩ | ⟨j1, _⟩ | ⟨j1, j2, mk', ob', j3, j4⟩ | ⟨_, j2, _⟩
        rotate_left 3
        · exact absurd j2 hla
        · rw [i2] at j2; cases j2
        · exact absurd (j1 (by rw [wi]; exact hwn)) (by rw [i2]; simp)
        · obtain ⟨e1, e2⟩ := allocAs_unique hai ((allocAs_put hsi hA).1 j3)
          rw [← Act.put_comm a (mk b') (mi b) hB, e1 b]
          refine j4 b (Later.self _) hb ?_
          have hlt : b < x.w.heap.size := (Array.getElem?_eq_some_iff.1 hx).1
          rw [← e2, ← hx]
          exact x'.le.block b hlt
    · -- k is the last
      exact absurd (k3 i (by simp)) hla

/-- k comes before i by the region's edges (c: the closure of the edges, as bits), or they have nothing to do with one another. -/
def sepB (ops : Array Oper) (c : Array Nat) (cls : Nat → Cls) (k i : Nat) : Bool :=
  (c.getD i 0).testBit k || (match ops[k]?, ops[i]? with
    | some ok, some oi => ok.apart ops oi && (cls k == .val || cls i != .loud) && cls i != .last
    | _, _ => false)
def pairsB (r : Nat → Nat → Bool) : List Nat → Bool
  | [] => true
  | k :: l => l.all (r k) && !l.contains k && pairsB r l
theorem pairsB_spec {r : Nat → Nat → Bool} : ∀ {l : List Nat}, pairsB r l = true → l.Pairwise (fun k i => r k i = true ∧ k ≠ i)
  | [], _ => .nil
  | k :: l, h => by
    simp only [pairsB, Bool.and_eq_true, List.all_eq_true, Bool.not_eq_true', List.contains_eq_mem, decide_eq_false_iff_not] at h
    exact .cons (fun i hi => ⟨h.1.1 i hi, fun e => h.1.2 (e ▸ hi)⟩) (pairsB_spec h.2)
def edgesB (ops : Array Oper) : Bool := (List.range ops.size).all fun i => match ops[i]? with
  | some o => o.after.all fun e => !Region.binds .any e || decide (e.on < i)
  | none => true
def certB (ops : Array Oper) (c : Array Nat) : Bool := (List.range ops.size).all fun i => match ops[i]? with
  | some o => (List.range ops.size).all fun k => !(c.getD i 0).testBit k || o.after.toList.any fun e => Region.binds .any e && (e.on == k || (c.getD e.on 0).testBit k)
  | none => true
def mixB (ops : Array Oper) (order : List Nat) (cls : Nat → Cls) : Bool :=
  Region.noSelect ops && edgesB ops && certB ops (Region.before ops) && pairsB (sepB ops (Region.before ops) cls) order && (List.range ops.size).all order.contains && order.all (fun i => decide (i < ops.size))

theorem edgesB_spec (h : edgesB ops = true) {i : Nat} {o : Oper} (ho : ops[i]? = some o) : ∀ e ∈ o.after, Region.binds .any e = true → e.on < i := by
  simp only [edgesB, List.all_eq_true, List.mem_range] at h
  have h1 := h i (Array.getElem?_eq_some_iff.1 ho).1
  simp only [ho, Array.all_eq_true_iff_forall_mem, Bool.or_eq_true, Bool.not_eq_true', decide_eq_true_eq] at h1
  intro e he hb
  rcases h1 e he with h2 | h2
  · rw [hb] at h2; cases h2
  · exact h2

/-- What comes before an operation that may come up has come up. -/
theorem cert_listed {c : Array Nat} {listed : Array Bool} (hE : edgesB ops = true) (hC : certB ops c = true)
    (hdown : ∀ j o, ops[j]? = some o → listed.getD j true = true → ∀ e ∈ o.after, Region.binds .any e = true → listed.getD e.on true = true) :
    ∀ (n i : Nat) (o : Oper), i < n → ops[i]? = some o → (∀ e ∈ o.after, Region.binds .any e = true → listed.getD e.on true = true) →
      ∀ k, k < ops.size → (c.getD i 0).testBit k = true → listed.getD k true = true
  | 0, _, _, h, _, _ => absurd h (Nat.not_lt_zero _)
  | n + 1, i, o, hi, ho, hall => by
    intro k hk hbit
    have hC' := hC
    simp only [certB, List.all_eq_true, List.mem_range] at hC'
    have h1 := hC' i (Array.getElem?_eq_some_iff.1 ho).1
    simp only [ho, List.all_eq_true, List.mem_range] at h1
    have h2 := h1 k hk
    rw [hbit] at h2
    simp only [Bool.not_true, Bool.false_or, List.any_eq_true, Array.mem_toList_iff, Bool.and_eq_true, Bool.or_eq_true, beq_iff_eq] at h2
    obtain ⟨e, he, hb, hon⟩ := h2
    rcases hon with rfl | hon
    · exact hall e he hb
    · have hlt := edgesB_spec hE ho e he hb
      have hlt2 : e.on < ops.size := Nat.lt_trans hlt (Array.getElem?_eq_some_iff.1 ho).1
      obtain ⟨oe, hoe⟩ : ∃ oe, ops[e.on]? = some oe := ⟨ops[e.on], by simp [hlt2]⟩
      exact cert_listed hE hC hdown n e.on oe (by omega) hoe (hdown e.on oe hoe (hall e he hb)) k hk hon

theorem split_mem {i : Nat} : ∀ {l : List Nat}, i ∈ l → ∃ l1 l2, l = l1 ++ i :: l2
  | k :: l, h => by
    rcases List.mem_cons.1 h with rfl | h
    · exact ⟨[], l, rfl⟩
    · obtain ⟨l1, l2, rfl⟩ := split_mem h
      exact ⟨k :: l1, l2, rfl⟩

theorem any_of_good {Q' : Exit → Act → World → Prop} (hs : Region.noSelect ops = true) (hE : edgesB ops = true) (hC : certB ops (Region.before ops) = true) :
    ∀ (n : Nat) (rem : List Nat) (listed : Array Bool) (a : Act) (w : World), rem.length = n → ((∃ i ∈ rem, cls i ≠ .last) → C0 W0 w) → listed.size = ops.size →
      rem.Pairwise (fun k i => sepB ops (Region.before ops) cls k i = true ∧ k ≠ i) → (∀ i, i ∈ rem ↔ i < ops.size ∧ listed.getD i true = false) →
      (∀ j o, ops[j]? = some o → listed.getD j true = true → ∀ e ∈ o.after, Region.binds .any e = true → listed.getD e.on true = true) →
      Good P ops W0 cls (fun a w => Q' .normal a w) rem a w → wpAny P .any ops Q' n listed a w
  | 0, rem, listed, a, w, hn, _, _, _, hmem, _, hg => by
    obtain rfl : rem = [] := List.eq_nil_of_length_eq_zero hn
    refine ⟨?_, hg (Later.self w)⟩
    rw [List.eq_nil_iff_forall_not_mem]
    intro i hi
    obtain ⟨h0, o, ho, _⟩ := mem_ready.1 hi
    exact absurd ((hmem i).2 ⟨(Array.getElem?_eq_some_iff.1 ho).1, h0⟩) (by simp)
  | n + 1, rem, listed, a, w, hn, hw, hsz, hpw, hmem, hdown, hg => by
    refine ⟨fun hr => ?_, fun i hi => ?_⟩
    · exfalso
      -- the least of what is left may come up
      have key : ∀ m i, i < m → i ∈ rem → False := by
        intro m
        induction m with
        | zero => intro i h; exact absurd h (Nat.not_lt_zero _)
        | succ m ih =>
          intro i him hir
          obtain ⟨hi1, hi2⟩ := (hmem i).1 hir
          have hready : i ∈ Region.ready .any ops listed := by
            refine mem_ready.2 ⟨hi2, ops[i], by simp [hi1], fun e he hb => ?_⟩
            have hlt := edgesB_spec hE (i := i) (o := ops[i]) (by simp [hi1]) e he hb
            have hlt2 : e.on < listed.size := by rw [hsz]; omega
            cases hl : listed.getD e.on true
            · exact (ih e.on (by omega) ((hmem e.on).2 ⟨by omega, hl⟩)).elim
            · simpa [hlt2] using hl
          rw [hr] at hready
          cases hready
      match rem, hn with
      | i :: rest, _ => exact key (i + 1) i (by omega) (by simp)
    · obtain ⟨h0, oi, hoi, hdep⟩ := mem_ready.1 hi
      have hi1 : i < ops.size := (Array.getElem?_eq_some_iff.1 hoi).1
      have hdep' : ∀ e ∈ oi.after, Region.binds .any e = true → listed.getD e.on true = true := fun e he hb => by
        have hh := hdep e he hb
        have hlt := edgesB_spec hE hoi e he hb
        have hlt2 : e.on < listed.size := by rw [hsz]; omega
        simpa [hlt2] using hh
      obtain ⟨l1, l2, rfl⟩ := split_mem ((hmem i).2 ⟨hi1, h0⟩)
      have hap : ∀ k ∈ l1, ∃ ok, ops[k]? = some ok ∧ ok.apart ops oi = true ∧ (cls k ≠ .val → cls i ≠ .loud) ∧ cls i ≠ .last := by
        intro k hk
        obtain ⟨hk1, hk2⟩ := (hmem k).1 (by simp [hk])
        have hsep := ((List.pairwise_append.1 hpw).2.2 k hk i (by simp)).1
        refine ⟨ops[k], by simp [hk1], ?_⟩
        rw [sepB, Bool.or_eq_true] at hsep
        rcases hsep with hsep | hsep
        · have := cert_listed hE hC hdown (i + 1) i oi (by omega) hoi hdep' k hk1 hsep
          rw [hk2] at this
          cases this
        · simp only [hoi, hk1, getElem?_pos, Bool.and_eq_true, Bool.or_eq_true, beq_iff_eq, bne_iff_ne] at hsep
          exact ⟨hsep.1.1, fun hv => hsep.1.2.resolve_left hv, hsep.2⟩
      have hp := pull hoi (Region.noSelect_spec hs) l1 l2 a w (fun hne => by
        obtain ⟨k, hk⟩ := List.exists_mem_of_ne_nil _ hne
        obtain ⟨_, _, _, _, h4⟩ := hap k hk
        exact hw ⟨i, by simp, h4⟩) hap hg
      have hpw' : (l1 ++ l2).Pairwise (fun k i => sepB ops (Region.before ops) cls k i = true ∧ k ≠ i) :=
        hpw.sublist (List.Sublist.append_left (List.sublist_cons_self i l2) l1)
      have hnot : i ∉ l1 ++ l2 := by
        intro hmi
        rcases List.mem_append.1 hmi with hm | hm
        · exact ((List.pairwise_append.1 hpw).2.2 i hm i (by simp)).2 rfl
        · exact ((List.pairwise_cons.1 (List.pairwise_append.1 hpw).2.1).1 i hm).2 rfl
      have hlen : (l1 ++ l2).length = n := by simp at hn ⊢; omega
      have hmem' : ∀ j, j ∈ l1 ++ l2 ↔ j < ops.size ∧ (listed.setIfInBounds i true).getD j true = false := by
        intro j
        by_cases hji : j = i
        · subst hji
          refine ⟨fun h => absurd h hnot, fun h => ?_⟩
          have hlt2 : j < listed.size := by rw [hsz]; exact hi1
          simp [hlt2] at h
        · have e : (listed.setIfInBounds i true).getD j true = listed.getD j true := getD_set_ne true (Ne.symm hji)
          rw [e, ← hmem j]
          simp [hji]
      have hdown' : ∀ j o, ops[j]? = some o → (listed.setIfInBounds i true).getD j true = true → ∀ e ∈ o.after, Region.binds .any e = true → (listed.setIfInBounds i true).getD e.on true = true := by
        intro j o ho hl e he hb
        have up : listed.getD e.on true = true → (listed.setIfInBounds i true).getD e.on true = true := fun h => by
          by_cases hei : i = e.on
          · subst hei
            have hlt2 : e.on < listed.size := by rw [hsz]; exact hi1
            simp [hlt2]
          · rw [getD_set_ne true hei]; exact h
        by_cases hji : i = j
        · subst hji
          obtain rfl : oi = o := Option.some.inj (hoi.symm.trans ho)
          exact up (hdep' e he hb)
        · rw [getD_set_ne true hji] at hl
          exact up (hdown j o ho hl e he hb)
      have next := fun (a' : Act) (w' : World) (hw' : (∃ j ∈ l1 ++ l2, cls j ≠ .last) → C0 W0 w') (hg' : Good P ops W0 cls (fun a w => Q' .normal a w) (l1 ++ l2) a' w') =>
        any_of_good (Q' := Q') hs hE hC n (l1 ++ l2) (listed.setIfInBounds i true) a' w' hlen hw' (by simpa using hsz) hpw' hmem' hdown' hg'
      unfold wpOp
      simp only [hoi]
      rcases hp with ⟨h1, h2, h3⟩ | ⟨h1, v, h2, h3⟩ | ⟨h1, h2, mk, ob, h3, h4⟩ | ⟨h1, h2, h3, h4⟩
      · have hw := hw ⟨i, by simp, by rw [h2]; simp⟩
        rw [if_pos h1]
        refine .inl ?_
        have hx := Oper.wp_mono (K' := wpAny P .any ops Q' n (listed.setIfInBounds i true)) (fun a' w' h => next a' w' (fun _ => by obtain ⟨⟨y, hy⟩, _⟩ := h; rw [hy]; exact (hw.later (Later.self w)).later y) h.2) (h3 (Later.self w))
        exact wp_of_F3 hx
      · rcases h2 with ⟨hwn, hy⟩ | ⟨hwn, rfl⟩
        · have hw := hw ⟨i, by simp, by rw [h1 hwn]; simp⟩
          rw [if_pos hwn]
          refine .inl ?_
          simp only [Oper.wp, hy w hw, Oper.upon]
          exact next _ _ (fun _ => hw) h3
        · rw [if_neg (by rw [hwn]; simp)]
          exact next _ _ (fun ⟨j, hj, hc⟩ => hw ⟨j, by rcases List.mem_append.1 hj with h | h <;> simp [h], hc⟩) h3
      · have hw := hw ⟨i, by simp, by rw [h2]; simp⟩
        rw [if_pos h1]
        refine .inl ?_
        simp only [Oper.wp, h3 w, Oper.upon]
        exact next _ _ (fun _ => hw.later (Later.new w ob)) (h4 w.heap.size (Later.new w ob) hw.size (heap_alloc_new w ob))
      · rw [if_pos h1]
        refine .inl ?_
        have hx := Oper.wp_mono (K' := wpAny P .any ops Q' n (listed.setIfInBounds i true)) (fun a' w' h => next a' w' (fun ⟨j, hj, hc⟩ => absurd (h3 j hj) hc) h) (h4 (Later.self w))
        exact wp_of_F3 hx

/-- **A region that draws its order, walked once.** -/
theorem region_mix {id : Nat} {Q' : Exit → Act → World → Prop} {a : Act} {w : World} {l : List Oper} (order : List Nat) (cls : Nat → Cls) (hm : P.follows .mixedOrders = true)
    (hB : mixB l.toArray order cls = true) (h : Good P l.toArray w cls (fun a w => Q' .normal a w) order a w) : (Code.region id l.toArray true).wp P Q' a w := by
  simp only [mixB, Bool.and_eq_true] at hB
  obtain ⟨⟨⟨⟨⟨hs, hE⟩, hC⟩, hp⟩, hr⟩, ho⟩ := hB
  refine wp_region_any hm ?_
  have hlen : order.length = l.toArray.size := by
    have hnd : order.Nodup := (pairsB_spec hp).imp (fun h => h.2)
    have h1 : ∀ i, i ∈ order ↔ i ∈ List.range l.toArray.size := fun i => by
      rw [List.mem_range]
      rw [List.all_eq_true] at ho hr
      exact ⟨fun h => of_decide_eq_true (ho i h), fun h => by have := hr i (List.mem_range.2 h); simpa using this⟩
    have hperm := (List.perm_ext_iff_of_nodup hnd List.nodup_range).2 h1
    rw [hperm.length_eq, List.length_range]
  have := any_of_good (P := P) (W0 := w) (cls := cls) (Q' := Q') hs hE hC order.length order (Array.replicate l.toArray.size false) a { w with drawn := w.drawn + 1 } rfl (fun _ => ⟨Later.draw w, rfl⟩) (by simp) (pairsB_spec hp)
    (fun i => by
      rw [List.all_eq_true] at ho hr
      constructor
      · intro h
        have hlt := of_decide_eq_true (ho i h)
        exact ⟨hlt, by simp at hlt; simp [hlt]⟩
      · intro h
        have := hr i (List.mem_range.2 h.1)
        simpa using this)
    (fun j o hj hl => by
      have hlt : j < l.toArray.size := (Array.getElem?_eq_some_iff.1 hj).1
      simp at hlt
      simp [hlt] at hl)
    (h.later (Later.draw w))
  rw [hlen] at this
  exact this
end
end Mix
end Go.Proofs.Ytieaibebnkdmhaa
