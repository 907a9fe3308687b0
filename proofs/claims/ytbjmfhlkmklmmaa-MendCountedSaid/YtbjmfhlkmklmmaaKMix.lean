import Derived.Test.YtbjmfhlkmklmmaaKBase
import Derived.OrdersHeld
import Derived.OrdersIn
/-  The orders of a region with many operations: off a table, so that the kernel has little to reckon. -/
namespace Go.Proofs.Ytbjmfhlkmklmmaa

/-- what counts of an operation for the orders: on which it waits, what it writes, where it looks -/
structure Tab where
  after : List Nat
  dst : Option Nat
  looks : List Nat
def tabOp (ops : Array Oper) (o : Oper) : Tab := ⟨(o.after.toList.filter (Region.binds .any)).map (·.on), o.dst, o.looksAt ops⟩
def Tab.apart (x y : Tab) : Bool := (match x.dst with | some d => !y.looks.contains d && y.dst != some d | none => true) && (match y.dst with | some d => !x.looks.contains d | none => true)
def tabChk : List Tab → Nat → Bool
  | [], _ => true
  | t :: r, k => t.after.all (fun j => Nat.blt j k) && r.all (fun u => u.after.contains k || t.apart u) && tabChk r (k + 1)
theorem tab_apart (ops : Array Oper) (x y : Oper) : (tabOp ops x).apart (tabOp ops y) = x.apart ops y := rfl
theorem tab_any (ops : Array Oper) (o : Oper) (k : Nat) : (tabOp ops o).after.contains k = o.after.any (fun e => Region.binds .any e && e.on == k) := by
  rw [Bool.eq_iff_iff, List.contains_iff_mem, Array.any_eq_true']
  simp only [tabOp, List.mem_map, List.mem_filter, Array.mem_toList_iff, Bool.and_eq_true, beq_iff_eq, and_assoc]
theorem lexFrom_tab (ops : Array Oper) : ∀ (r pre : List Oper) (listed : Array Bool), ops.toList = pre ++ r → (∀ j d, j < ops.size → listed.getD j d = decide (j < pre.length)) → listed.size = ops.size →
    tabChk (r.map (tabOp ops)) pre.length = true → Region.lexFrom .any ops r.length pre.length listed = true
  | [], pre, listed, he, hl, _, _ => by
    have hsz : ops.size = pre.length := by rw [← Array.length_toList, he]; simp
    show (Region.ready .any ops listed).isEmpty = true
    rw [List.isEmpty_iff]
    refine List.eq_nil_iff_forall_not_mem.2 fun j hj => ?_
    obtain ⟨h1, o, h2, _⟩ := mem_ready.1 hj
    have hlt := (Array.getElem?_eq_some_iff.1 h2).1
    rw [hl j true hlt, decide_eq_false_iff_not] at h1
    omega
  | o :: r, pre, listed, he, hl, hsz, hc => by
    have hn : ops.size = pre.length + (r.length + 1) := by rw [← Array.length_toList, he]; simp
    have ho : ops[pre.length]? = some o := by rw [← Array.getElem?_toList, he]; simp
    simp only [List.map_cons, tabChk, Bool.and_eq_true] at hc
    obtain ⟨⟨h1, h2⟩, h3⟩ := hc
    show ((Region.ready .any ops listed).contains pre.length && Region.free .any ops listed pre.length && Region.lexFrom .any ops r.length (pre.length + 1) (listed.setIfInBounds pre.length true)) = true
    rw [Bool.and_eq_true, Bool.and_eq_true]
    refine ⟨⟨?_, ?_⟩, ?_⟩
    · rw [List.contains_iff_mem]
      refine mem_ready.2 ⟨by rw [hl _ true (by omega)]; simp, o, ho, fun e he' hb => ?_⟩
      have := List.all_eq_true.1 h1 e.on (List.mem_map.2 ⟨e, List.mem_filter.2 ⟨Array.mem_toList_iff.2 he', hb⟩, rfl⟩)
      have hlt : e.on < pre.length := by simpa using this
      rw [hl _ false (by omega), decide_eq_true hlt]
    · unfold Region.free
      rw [ho]
      refine List.all_eq_true.2 fun j hj => ?_
      rw [List.mem_range] at hj
      rw [Bool.or_eq_true, Bool.or_eq_true, beq_iff_eq, hl j true hj, decide_eq_true_iff]
      by_cases hjk : j ≤ pre.length
      · exact .inl (by omega)
      · right
        obtain ⟨i, hi⟩ : ∃ i, j = pre.length + (i + 1) := ⟨j - pre.length - 1, by omega⟩
        have hir : i < r.length := by omega
        have hoj : ops[j]? = some r[i] := by
          rw [← Array.getElem?_toList, he, hi, List.getElem?_append_right (by omega)]
          simp [hir]
        rw [hoj]
        have := List.all_eq_true.1 h2 (tabOp ops r[i]) (List.mem_map.2 ⟨r[i], List.getElem_mem hir, rfl⟩)
        rw [tab_any, tab_apart] at this
        exact this
    · have := lexFrom_tab ops r (pre ++ [o]) (listed.setIfInBounds pre.length true) (by rw [he]; simp) (fun j d hj => ?_) (by rw [Array.size_setIfInBounds]; exact hsz) (by rw [List.length_append]; exact h3)
      · rw [List.length_append] at this
        exact this
      · have h := hl j d hj
        rw [List.length_append, List.length_singleton]
        simp only [Array.getD_eq_getD_getElem?] at h ⊢
        rw [Array.getElem?_setIfInBounds]
        by_cases e : pre.length = j
        · subst e
          rw [if_pos rfl, if_pos (by omega)]
          simp
        · rw [if_neg e, h, Bool.eq_iff_iff, decide_eq_true_iff, decide_eq_true_iff]
          omega
theorem lexB_tab {l : List Oper} (T : List Tab) (hs : Region.noSelect l.toArray = true) (hT : l.map (tabOp l.toArray) = T) (hc : tabChk T 0 = true) : Region.lexB .any l.toArray = true := by
  rw [Region.lexB, hs, Bool.true_and]
  subst hT
  have := lexFrom_tab l.toArray l [] (Array.replicate l.toArray.size false) rfl (fun j d hj => by
    have hj' : j < l.length := by simpa using hj
    simp [Array.getD_eq_getD_getElem?, hj']) (by simp) hc
  simpa using this

/-- A slice of bytes that reads as a list of numbers. -/
def Byts (w : World) (v : Value) (xs : List Int) : Prop :=
  xs.length ≤ 9007199254740992 ∧ (∀ k, k < xs.length → 0 ≤ nth xs k ∧ nth xs k ≤ 255) ∧ ((xs = [] ∧ ∃ a cap, v = .slice a 0 cap) ∨
    ∃ b off cap, v = .slice (some ⟨b, off, none⟩) xs.length cap ∧ xs.length ≤ cap ∧ b < w.heap.size ∧ ∀ k, k < xs.length → w.cell? ⟨b, off + k, none⟩ = some (.int .u8 (nth xs k)))
theorem Byts.later {w : World} {v : Value} {xs : List Int} (h : Byts w v xs) (x : Later w) : Byts x.w v xs := by
  obtain ⟨h1, h3, h2 | ⟨b, off, cap, hv, hl, hb, hc⟩⟩ := h
  · exact ⟨h1, h3, .inl h2⟩
  · exact ⟨h1, h3, .inr ⟨b, off, cap, hv, hl, Nat.lt_of_lt_of_le hb x.size, fun k hk => (x.cell hb).trans (hc k hk)⟩⟩
theorem Byts.form {w : World} {v : Value} {xs : List Int} (h : Byts w v xs) : ∃ a cap, v = .slice a xs.length cap := by
  obtain ⟨h1, _, ⟨rfl, a, cap, rfl⟩ | ⟨b, off, cap, rfl, _⟩⟩ := h
  · exact ⟨a, cap, rfl⟩
  · exact ⟨_, cap, rfl⟩
theorem Byts.at {w : World} {v : Value} {xs : List Int} (h : Byts w v xs) {k : Nat} (hk : k < xs.length) :
    ∃ b off cap, v = .slice (some ⟨b, off, none⟩) xs.length cap ∧ xs.length ≤ cap ∧ b < w.heap.size ∧ ∀ k, k < xs.length → w.cell? ⟨b, off + k, none⟩ = some (.int .u8 (nth xs k)) := by
  obtain ⟨h1, _, ⟨rfl, _⟩ | h2⟩ := h
  · simp at hk
  · exact h2
end Go.Proofs.Ytbjmfhlkmklmmaa

/-
  A region that draws its order of evaluation, walked once in the order of its text: its operations yield the same in every later world, or make a new block, or are ordered among each other by the region's own edges. Plain law over any program.
-/
namespace Go.Proofs.Ytbjmfhlkmklmmaa
open Go.RowKit
namespace Mix
section
variable {P : Program} {ops : Array Oper}

def F3 : Exit → Act → World → Prop := fun _ _ _ => False

theorem wp_put_out {o : Oper} {a : Act} {w : World} {d : Option Tmp} {v : Value} {K : Act → World → Prop} (hs : ∀ cs b, o.op ≠ .select cs b)
    (h1 : ∀ t, d = some t → t ∉ o.looksAt ops) (h2 : ∀ t, d = some t → o.dst ≠ some t) (h : o.wp P (a.put d v) w K F3) :
    o.wp P a w (fun a' w' => K (a'.put d v) w') F3 := by
  unfold Oper.wp at *
  rw [execOp_put o hs a d v h1] at h
  generalize (execOp a.eval o).run P w = r at *
  cases r with
  | ok n w' =>
    cases n <;> simp only [Oper.upon] at h ⊢
    case value u => rw [← Act.put_comm a v u h2]; exact h
    case skip => rw [← Act.put_comm a v undef h2]; exact h
    case defer q => rw [← Act.put_comm _ v undef h2, ← Act.put_defers]; exact h
    case enter f args =>
      refine Calls.mono h fun e w'' he => ?_
      cases e with
      | returned u => show K _ _; rw [← Act.put_comm a v u h2]; exact he
      | panicked c => exact he
      | outgrown => exact he
    case row row args => exact Rows.mono h fun u w'' he => by show K _ _; rw [← Act.put_comm a v u h2]; exact he
  | halt x w' => cases x <;> simp only [Oper.upon] at h ⊢ <;> exact h

theorem wp_put_in {o : Oper} {a : Act} {w : World} {d : Option Tmp} {v : Value} {K : Act → World → Prop} (hs : ∀ cs b, o.op ≠ .select cs b)
    (h1 : ∀ t, d = some t → t ∉ o.looksAt ops) (h2 : ∀ t, d = some t → o.dst ≠ some t) (h : o.wp P a w (fun a' w' => K (a'.put d v) w') F3) :
    o.wp P (a.put d v) w K F3 := by
  unfold Oper.wp at *
  rw [execOp_put o hs a d v h1]
  generalize (execOp a.eval o).run P w = r at *
  cases r with
  | ok n w' =>
    cases n <;> simp only [Oper.upon] at h ⊢
    case value u => rw [Act.put_comm a v u h2]; exact h
    case skip => rw [Act.put_comm a v undef h2]; exact h
    case defer q => rw [Act.put_defers, Act.put_comm _ v undef h2]; exact h
    case enter f args =>
      refine Calls.mono h fun e w'' he => ?_
      cases e with
      | returned u => show K _ _; rw [Act.put_comm a v u h2]; exact he
      | panicked c => exact he
      | outgrown => exact he
    case row row args => exact Rows.mono h fun u w'' he => by show K _ _; rw [Act.put_comm a v u h2]; exact he
  | halt x w' => cases x <;> simp only [Oper.upon] at h ⊢ <;> exact h

/-- What an operation comes to, once. -/
theorem wp_witness {o : Oper} {a : Act} {w : World} {K : Act → World → Prop} (h : o.wp P a w K F3) : ∃ ds u w', K (({ a with defers := ds } : Act).put o.dst u) w' := by
  unfold Oper.wp at h
  generalize (execOp a.eval o).run P w = r at *
  cases r with
  | ok n w' =>
    cases n <;> simp only [Oper.upon] at h
    case value u => exact ⟨a.defers, u, w', h⟩
    case skip => exact ⟨a.defers, undef, w', h⟩
    case defer q => exact ⟨_, undef, w', h⟩
    case enter f args =>
      obtain ⟨e, w'', fr, he, _⟩ := h []
      cases e with
      | returned u => exact ⟨a.defers, u, w'', he⟩
      | panicked c => exact he.elim
      | outgrown => obtain ⟨_, _, h⟩ := he; exact h.elim
    case row row args =>
      obtain ⟨u, w'', he, _⟩ := h default []
      exact ⟨a.defers, u, w'', he⟩
  | halt x w' => cases x <;> simp only [Oper.upon] at h <;> exact h.elim

theorem wp_mono_act {o : Oper} {a : Act} {w : World} {K K' : Act → World → Prop} (h : o.wp P a w K F3)
    (hk : ∀ ds u w', K (({ a with defers := ds } : Act).put o.dst u) w' → K' (({ a with defers := ds } : Act).put o.dst u) w') : o.wp P a w K' F3 := by
  unfold Oper.wp at *
  generalize (execOp a.eval o).run P w = r at *
  cases r with
  | ok n w' =>
    cases n <;> simp only [Oper.upon] at h ⊢
    case value u => exact hk a.defers u _ h
    case skip => exact hk a.defers undef _ h
    case defer q => exact hk _ undef _ h
    case enter f args =>
      refine Calls.mono h fun e w'' he => ?_
      cases e with
      | returned u => exact hk a.defers u _ he
      | panicked c => exact he
      | outgrown => exact he
    case row row args => exact Rows.mono h fun u w'' he => hk a.defers u _ he
  | halt x w' => cases x <;> simp only [Oper.upon] at h ⊢ <;> exact h

theorem wp_of_F3 {o : Oper} {a : Act} {w : World} {K : Act → World → Prop} {Q' : Exit → Act → World → Prop} (h : o.wp P a w K F3) : o.wp P a w K Q' := by
  unfold Oper.wp at *
  generalize (execOp a.eval o).run P w = r at *
  cases r with
  | ok n w' =>
    cases n <;> simp only [Oper.upon] at h ⊢
    case value u => exact h
    case skip => exact h
    case defer q => exact h
    case enter f args =>
      refine Calls.mono h fun e w'' he => ?_
      cases e with
      | returned u => exact he
      | panicked c => exact he.elim
      | outgrown => obtain ⟨_, _, h⟩ := he; exact h.elim
    case row row args => exact h
  | halt x w' => cases x <;> simp only [Oper.upon] at h ⊢ <;> exact h.elim

/-- An operation that makes one new block, and yields what points at it. -/
def AllocAs (P : Program) (o : Oper) (a : Act) (mk : Nat → Value) (ob : Obj) : Prop := ∀ w : World, (execOp a.eval o).run P w = .ok (.value (mk w.heap.size)) (w.alloc ob)

inductive Cls where
  | val | new | loud | last
  deriving DecidableEq

def C0 (W0 : World) (w : World) : Prop := ∃ x : Later W0, w = x.w

def Good (P : Program) (ops : Array Oper) (W0 : World) (cls : Nat → Cls) (Q : Act → World → Prop) : List Nat → Act → World → Prop
  | [], a, w => ∀ x : Later w, Q a x.w
  | i :: rest, a, w => ∀ o, ops[i]? = some o →
      (Region.wanted o (yielded ops a.tmps) = true ∧ cls i = .loud ∧ ∀ x : Later w, o.wp P a x.w (fun a' w' => (∃ y : Later x.w, w' = y.w) ∧ Good P ops W0 cls Q rest a' w') F3) ∨
      ((Region.wanted o (yielded ops a.tmps) = true → cls i = .val) ∧ ∃ v, YieldsIf P ops (C0 W0) o v a ∧ Good P ops W0 cls Q rest (a.put o.dst v) w) ∨
      (Region.wanted o (yielded ops a.tmps) = true ∧ cls i = .new ∧ ∃ mk ob, AllocAs P o a mk ob ∧
        ∀ (b : Nat) (x : Later w), W0.heap.size ≤ b → x.w.heap[b]? = some ob → Good P ops W0 cls Q rest (a.put o.dst (mk b)) x.w) ∨
      (Region.wanted o (yielded ops a.tmps) = true ∧ cls i = .last ∧ (∀ j ∈ rest, cls j = .last) ∧ ∀ x : Later w, o.wp P a x.w (fun a' w' => Good P ops W0 cls Q rest a' w') F3)

variable {W0 : World} {cls : Nat → Cls} {Q : Act → World → Prop}

theorem Good.later : ∀ {l : List Nat} {a : Act} {w : World}, Good P ops W0 cls Q l a w → ∀ x : Later w, Good P ops W0 cls Q l a x.w
  | [], _, _, h, x => fun y => h (x.step y)
  | i :: rest, a, w, h, x => fun o ho => by
    rcases h o ho with ⟨h1, h2, h3⟩ | ⟨h1, v, h2, h3⟩ | ⟨h1, h2, mk, ob, h3, h4⟩ | ⟨h1, h2, h3, h4⟩
    · exact .inl ⟨h1, h2, fun y => h3 (x.step y)⟩
    · exact .inr (.inl ⟨h1, v, h2, h3.later x⟩)
    · exact .inr (.inr (.inl ⟨h1, h2, mk, ob, h3, fun b y hb hy => h4 b (x.step y) hb hy⟩))
    · exact .inr (.inr (.inr ⟨h1, h2, h3, fun y => h4 (x.step y)⟩))

theorem C0.self (W0 : World) : C0 W0 W0 := ⟨Later.self _, rfl⟩
theorem C0.later {w : World} (h : C0 W0 w) (x : Later w) : C0 W0 x.w := by
  obtain ⟨y, rfl⟩ := h
  exact ⟨y.step x, rfl⟩
theorem C0.size {w : World} (h : C0 W0 w) : W0.heap.size ≤ w.heap.size := by
  obtain ⟨y, rfl⟩ := h
  exact y.size

theorem yieldsIf_unique {o : Oper} {a : Act} {v v' : Value} (h : YieldsIf P ops (C0 W0) o v a) (h' : YieldsIf P ops (C0 W0) o v' a) : v = v' := by
  rcases h with ⟨h1, h2⟩ | ⟨h1, rfl⟩ <;> rcases h' with ⟨h1', h2'⟩ | ⟨h1', rfl⟩
  · have e1 := h2 W0 (C0.self _)
    have e2 := h2' W0 (C0.self _)
    rw [e1] at e2
    cases e2; rfl
  · rw [h1] at h1'; cases h1'
  · rw [h1] at h1'; cases h1'
  · rfl

theorem yieldsIf_put {o : Oper} {a : Act} {v u : Value} {d : Option Tmp} (hs : ∀ cs b, o.op ≠ .select cs b) (h1 : ∀ t, d = some t → t ∉ o.looksAt ops) :
    YieldsIf P ops (C0 W0) o v (a.put d u) ↔ YieldsIf P ops (C0 W0) o v a := by
  unfold YieldsIf
  rw [execOp_put o hs a d u h1, wanted_put o a d u h1]

theorem allocAs_put {o : Oper} {a : Act} {u : Value} {d : Option Tmp} {mk : Nat → Value} {ob : Obj} (hs : ∀ cs b, o.op ≠ .select cs b) (h1 : ∀ t, d = some t → t ∉ o.looksAt ops) :
    AllocAs P o (a.put d u) mk ob ↔ AllocAs P o a mk ob := by
  unfold AllocAs
  rw [execOp_put o hs a d u h1]

theorem size_any (n : Nat) : ∃ w : World, w.heap.size = n := ⟨{ (default : World) with heap := Array.replicate n default }, by simp⟩

theorem allocAs_unique {o : Oper} {a : Act} {mk mk' : Nat → Value} {ob ob' : Obj} (h : AllocAs P o a mk ob) (h' : AllocAs P o a mk' ob') : (∀ n, mk n = mk' n) ∧ ob = ob' := by
  refine ⟨fun n => ?_, ?_⟩
  · obtain ⟨w, rfl⟩ := size_any n
    have e := (h w).symm.trans (h' w)
    simp only [Result.ok.injEq, Next.value.injEq] at e
    exact e.1
  · have e := (h default).symm.trans (h' default)
    simp only [Result.ok.injEq] at e
    have e2 := congrArg World.heap e.2
    simp only [World.alloc] at e2
    exact (Array.push_eq_push.1 e2).1

/-- What is pulled ahead of the rest. -/
def Pulled (P : Program) (ops : Array Oper) (W0 : World) (cls : Nat → Cls) (Q : Act → World → Prop) (i : Nat) (o : Oper) (l : List Nat) (a : Act) (w : World) : Prop :=
  (Region.wanted o (yielded ops a.tmps) = true ∧ cls i = .loud ∧ ∀ x : Later w, o.wp P a x.w (fun a' w' => (∃ y : Later x.w, w' = y.w) ∧ Good P ops W0 cls Q l a' w') F3) ∨
  ((Region.wanted o (yielded ops a.tmps) = true → cls i = .val) ∧ ∃ v, YieldsIf P ops (C0 W0) o v a ∧ Good P ops W0 cls Q l (a.put o.dst v) w) ∨
  (Region.wanted o (yielded ops a.tmps) = true ∧ cls i = .new ∧ ∃ mk ob, AllocAs P o a mk ob ∧
    ∀ (b : Nat) (x : Later w), W0.heap.size ≤ b → x.w.heap[b]? = some ob → Good P ops W0 cls Q l (a.put o.dst (mk b)) x.w) ∨
  (Region.wanted o (yielded ops a.tmps) = true ∧ cls i = .last ∧ (∀ j ∈ l, cls j = .last) ∧ ∀ x : Later w, o.wp P a x.w (fun a' w' => Good P ops W0 cls Q l a' w') F3)

theorem wanted_defers (o : Oper) (a : Act) (ds : List Deferred) : Region.wanted o (yielded ops ({ a with defers := ds } : Act).tmps) = Region.wanted o (yielded ops a.tmps) := rfl

theorem pull {i : Nat} {oi : Oper} (hoi : ops[i]? = some oi) (hsel : ∀ (j : Nat) (o : Oper) cs b, ops[j]? = some o → o.op ≠ .select cs b) :
    ∀ (l1 l2 : List Nat) (a : Act) (w : World), (l1 ≠ [] → C0 W0 w) → (∀ k ∈ l1, ∃ ok, ops[k]? = some ok ∧ ok.apart ops oi = true ∧ (cls k ≠ .val → cls i ≠ .loud) ∧ cls i ≠ .last) →
      Good P ops W0 cls Q (l1 ++ i :: l2) a w → Pulled P ops W0 cls Q i oi (l1 ++ l2) a w
  | [], l2, a, w, _, _, h => h oi hoi
  | k :: l1, l2, a, w, hw, hap, h => by
    have hw := hw (by simp)
    have hsi := fun cs b => hsel i oi cs b hoi
    obtain ⟨ok, hok, hapk, hcl, hla⟩ := hap k (by simp)
    have hsk := fun cs b => hsel k ok cs b hok
    obtain ⟨hA, hB, hC⟩ := Oper.apart_spec hapk
    -- hA: k's slot is not looked at by i; hB: other slots; hC: i's slot is not looked at by k
    have hB' : ∀ t, oi.dst = some t → ok.dst ≠ some t := fun t ht hk => hB t hk ht
    have ih := fun (a : Act) (w : World) (hw : C0 W0 w) => pull hoi hsel l1 l2 a w (fun _ => hw) (fun k' hk' => hap k' (by simp [hk']))
    have wi : ∀ (a : Act) u, Region.wanted oi (yielded ops (a.put ok.dst u).tmps) = Region.wanted oi (yielded ops a.tmps) := fun a u => wanted_put oi a ok.dst u hA
    have wk : ∀ (a : Act) u, Region.wanted ok (yielded ops (a.put oi.dst u).tmps) = Region.wanted ok (yielded ops a.tmps) := fun a u => wanted_put ok a oi.dst u hC
    rcases h ok hok with ⟨k1, k2, k3⟩ | ⟨k1, vk, k2, k3⟩ | ⟨k1, k2, mk, ob, k3, k4⟩ | ⟨_, _, k3, _⟩
    · -- k is loud
      have hil : cls i ≠ .loud := hcl (by rw [k2]; simp)
      obtain ⟨ds, u, w1, ⟨y1, hy1⟩, hg⟩ := wp_witness (k3 (Later.self w))
      have hw1 : C0 W0 w1 := by rw [hy1]; exact (hw.later (Later.self w)).later y1
      rcases ih _ _ hw1 hg with ⟨_, i2, _⟩ | ⟨i1, v, i2, _⟩ | ⟨i1, i2, mk, ob, i3, _⟩ | ⟨_, i2, _⟩
      rotate_left 3
      · exact absurd i2 hla
      · exact absurd i2 hil
      · refine .inr (.inl ⟨fun hwn => i1 (by rw [wi]; exact hwn), v, ?_, ?_⟩)
        · exact (yieldsIf_put (a := { a with defers := ds }) hsi hA).1 i2
        · have hyi : YieldsIf P ops (C0 W0) oi v a := (yieldsIf_put (a := { a with defers := ds }) hsi hA).1 i2
          intro o ho
          obtain rfl : ok = o := Option.some.inj (hok.symm.trans ho)
          refine .inl ⟨by rw [wk]; exact k1, k2, fun x => wp_put_in hsk hC hB' ?_⟩
          refine wp_mono_act (k3 x) ?_
          rintro ds' u' w' ⟨⟨y, hy⟩, hg'⟩
          refine ⟨⟨y, hy⟩, ?_⟩
          have hw' : C0 W0 w' := by rw [hy]; exact (hw.later x).later y
          rcases ih _ _ hw' hg' with ⟨_, j2, _⟩ | ⟨j1, v', j2, j3⟩ | ⟨j1, j2, _⟩ | ⟨_, j2, _⟩
          rotate_left 3
          · exact absurd j2 hla
          · exact absurd j2 hil
          · have e : v = v' := yieldsIf_unique hyi ((yieldsIf_put (a := { a with defers := ds' }) hsi hA).1 j2)
            rw [e]; exact j3
          · rw [wi] at j1
            exact absurd (i1 (by rw [wi]; exact j1)) (by rw [j2]; simp)
      · refine .inr (.inr (.inl ⟨by rw [wi] at i1; exact i1, i2, mk, ob, (allocAs_put (a := { a with defers := ds }) hsi hA).1 i3, ?_⟩))
        have hai : AllocAs P oi a mk ob := (allocAs_put (a := { a with defers := ds }) hsi hA).1 i3
        intro b x hb hx o ho
        obtain rfl : ok = o := Option.some.inj (hok.symm.trans ho)
        refine .inl ⟨by rw [wk]; exact k1, k2, fun x2 => wp_put_in hsk hC hB' ?_⟩
        refine wp_mono_act (k3 (x.step x2)) ?_
        rintro ds' u' w' ⟨⟨y, hy⟩, hg'⟩
        refine ⟨⟨y, hy⟩, ?_⟩
        have hw' : C0 W0 w' := by rw [hy]; exact (hw.later (x.step x2)).later y
        have hbw : w'.heap[b]? = some ob := by
          have hlt : b < x.w.heap.size := (Array.getElem?_eq_some_iff.1 hx).1
          rw [hy]
          exact (y.le.block b (Nat.lt_of_lt_of_le hlt x2.size)).trans ((x2.le.block b hlt).trans hx)
        rcases ih _ _ hw' hg' with ⟨_, j2, _⟩ | ⟨j1, v', j2, j3⟩ | ⟨j1, j2, mk', ob', j3, j4⟩ | ⟨_, j2, _⟩
        rotate_left 3
        · exact absurd j2 hla
        · exact absurd j2 hil
        · have hwn : Region.wanted oi (yielded ops a.tmps) = true := by rw [wi] at i1; exact i1
          exact absurd (j1 (by rw [wi]; exact hwn)) (by rw [i2]; simp)
        · obtain ⟨e1, e2⟩ := allocAs_unique hai ((allocAs_put (a := { a with defers := ds' }) hsi hA).1 j3)
          rw [e1 b]
          exact j4 b (Later.self _) hb (by rw [← e2]; exact hbw)
    · -- k yields a value
      rcases ih _ _ hw k3 with ⟨i1, i2, i3⟩ | ⟨i1, v, i2, i3⟩ | ⟨i1, i2, mk, ob, i3, i4⟩ | ⟨_, i2, _⟩
      rotate_left 3
      · exact absurd i2 hla
      · refine .inl ⟨by rw [wi] at i1; exact i1, i2, fun x => ?_⟩
        refine wp_mono_act (wp_put_out hsi hA (fun t ht => hB t ht) (i3 x)) ?_
        rintro ds' u' w' ⟨hy, hg'⟩
        refine ⟨hy, fun o ho => ?_⟩
        obtain rfl : ok = o := Option.some.inj (hok.symm.trans ho)
        exact .inr (.inl ⟨fun hwn => k1 (by rw [wk] at hwn; exact hwn), vk, (yieldsIf_put (a := { a with defers := ds' }) hsk hC).2 k2, hg'⟩)
      · refine .inr (.inl ⟨fun hwn => i1 (by rw [wi]; exact hwn), v, (yieldsIf_put hsi hA).1 i2, fun o ho => ?_⟩)
        obtain rfl : ok = o := Option.some.inj (hok.symm.trans ho)
        refine .inr (.inl ⟨fun hwn => k1 (by rw [wk] at hwn; exact hwn), vk, (yieldsIf_put hsk hC).2 k2, ?_⟩)
        rw [← Act.put_comm a vk v hB]
        exact i3
      · refine .inr (.inr (.inl ⟨by rw [wi] at i1; exact i1, i2, mk, ob, (allocAs_put hsi hA).1 i3, fun b x hb hx o ho => ?_⟩))
        obtain rfl : ok = o := Option.some.inj (hok.symm.trans ho)
        refine .inr (.inl ⟨fun hwn => k1 (by rw [wk] at hwn; exact hwn), vk, (yieldsIf_put hsk hC).2 k2, ?_⟩)
        rw [← Act.put_comm a vk (mk b) hB]
        exact i4 b x hb hx
    · -- k makes a block
      have first := ih _ _ (hw.later (Later.new w ob)) (k4 w.heap.size (Later.new w ob) hw.size (heap_alloc_new w ob))
      rcases first with ⟨i1, i2, _⟩ | ⟨i1, v, i2, _⟩ | ⟨i1, i2, mi, obi, i3, _⟩ | ⟨_, i2, _⟩
      rotate_left 3
      · exact absurd i2 hla
      · exact absurd i2 (hcl (by rw [k2]; simp))
      · have hyi : YieldsIf P ops (C0 W0) oi v a := (yieldsIf_put hsi hA).1 i2
        refine .inr (.inl ⟨fun hwn => i1 (by rw [wi]; exact hwn), v, hyi, fun o ho => ?_⟩)
        obtain rfl : ok = o := Option.some.inj (hok.symm.trans ho)
        refine .inr (.inr (.inl ⟨by rw [wk]; exact k1, k2, mk, ob, (allocAs_put hsk hC).2 k3, fun b x hb hx => ?_⟩))
        rcases ih _ _ (hw.later x) (k4 b x hb hx) with ⟨j1, j2, _⟩ | ⟨j1, v', j2, j3⟩ | ⟨j1, j2, _⟩ | ⟨_, j2, _⟩
        rotate_left 3
        · exact absurd j2 hla
        · rw [wi] at j1
          exact absurd (i1 (by rw [wi]; exact j1)) (by rw [j2]; simp)
        · have e : v = v' := yieldsIf_unique hyi ((yieldsIf_put hsi hA).1 j2)
          rw [← Act.put_comm a (mk b) v hB, e]
          exact j3
        · rw [wi] at j1
          exact absurd (i1 (by rw [wi]; exact j1)) (by rw [j2]; simp)
      · have hai : AllocAs P oi a mi obi := (allocAs_put hsi hA).1 i3
        have hwn : Region.wanted oi (yielded ops a.tmps) = true := by rw [wi] at i1; exact i1
        refine .inr (.inr (.inl ⟨hwn, i2, mi, obi, hai, fun b x hb hx o ho => ?_⟩))
        obtain rfl : ok = o := Option.some.inj (hok.symm.trans ho)
        refine .inr (.inr (.inl ⟨by rw [wk]; exact k1, k2, mk, ob, (allocAs_put hsk hC).2 k3, fun b' x' hb' hx' => ?_⟩))
        rcases ih _ _ (hw.later (x.step x')) (k4 b' (x.step x') hb' hx') with ⟨_, j2, _⟩ | ⟨j1, _⟩ | ⟨j1, j2, mk', ob', j3, j4⟩ | ⟨_, j2, _⟩
        rotate_left 3
        · exact absurd j2 hla
        · rw [i2] at j2; cases j2
        · exact absurd (j1 (by rw [wi]; exact hwn)) (by rw [i2]; simp)
        · obtain ⟨e1, e2⟩ := allocAs_unique hai ((allocAs_put hsi hA).1 j3)
          rw [← Act.put_comm a (mk b') (mi b) hB, e1 b]
          refine j4 b (Later.self _) hb ?_
          have hlt : b < x.w.heap.size := (Array.getElem?_eq_some_iff.1 hx).1
          rw [← e2, ← hx]
          exact x'.le.block b hlt
    · -- k is the last
      exact absurd (k3 i (by simp)) hla

/-- k comes before i by the region's edges (c: the closure of the edges, as bits), or they have nothing to do with one another. -/
def sepB (ops : Array Oper) (c : Array Nat) (cls : Nat → Cls) (k i : Nat) : Bool :=
  (c.getD i 0).testBit k || (match ops[k]?, ops[i]? with
    | some ok, some oi => ok.apart ops oi && (cls k == .val || cls i != .loud) && cls i != .last
    | _, _ => false)
def pairsB (r : Nat → Nat → Bool) : List Nat → Bool
  | [] => true
  | k :: l => l.all (r k) && !l.contains k && pairsB r l
theorem pairsB_spec {r : Nat → Nat → Bool} : ∀ {l : List Nat}, pairsB r l = true → l.Pairwise (fun k i => r k i = true ∧ k ≠ i)
  | [], _ => .nil
  | k :: l, h => by
    simp only [pairsB, Bool.and_eq_true, List.all_eq_true, Bool.not_eq_true', List.contains_eq_mem, decide_eq_false_iff_not] at h
    exact .cons (fun i hi => ⟨h.1.1 i hi, fun e => h.1.2 (e ▸ hi)⟩) (pairsB_spec h.2)
def edgesB (ops : Array Oper) : Bool := (List.range ops.size).all fun i => match ops[i]? with
  | some o => o.after.all fun e => !Region.binds .any e || decide (e.on < i)
  | none => true
def certB (ops : Array Oper) (c : Array Nat) : Bool := (List.range ops.size).all fun i => match ops[i]? with
  | some o => (List.range ops.size).all fun k => !(c.getD i 0).testBit k || o.after.toList.any fun e => Region.binds .any e && (e.on == k || (c.getD e.on 0).testBit k)
  | none => true
def mixB (ops : Array Oper) (order : List Nat) (cls : Nat → Cls) : Bool :=
  Region.noSelect ops && edgesB ops && certB ops (Region.before ops) && pairsB (sepB ops (Region.before ops) cls) order && (List.range ops.size).all order.contains && order.all (fun i => decide (i < ops.size))

theorem edgesB_spec (h : edgesB ops = true) {i : Nat} {o : Oper} (ho : ops[i]? = some o) : ∀ e ∈ o.after, Region.binds .any e = true → e.on < i := by
  simp only [edgesB, List.all_eq_true, List.mem_range] at h
  have h1 := h i (Array.getElem?_eq_some_iff.1 ho).1
  simp only [ho, Array.all_eq_true_iff_forall_mem, Bool.or_eq_true, Bool.not_eq_true', decide_eq_true_eq] at h1
  intro e he hb
  rcases h1 e he with h2 | h2
  · rw [hb] at h2; cases h2
  · exact h2

/-- What comes before an operation that may come up has come up. -/
theorem cert_listed {c : Array Nat} {listed : Array Bool} (hE : edgesB ops = true) (hC : certB ops c = true)
    (hdown : ∀ j o, ops[j]? = some o → listed.getD j true = true → ∀ e ∈ o.after, Region.binds .any e = true → listed.getD e.on true = true) :
    ∀ (n i : Nat) (o : Oper), i < n → ops[i]? = some o → (∀ e ∈ o.after, Region.binds .any e = true → listed.getD e.on true = true) →
      ∀ k, k < ops.size → (c.getD i 0).testBit k = true → listed.getD k true = true
  | 0, _, _, h, _, _ => absurd h (Nat.not_lt_zero _)
  | n + 1, i, o, hi, ho, hall => by
    intro k hk hbit
    have hC' := hC
    simp only [certB, List.all_eq_true, List.mem_range] at hC'
    have h1 := hC' i (Array.getElem?_eq_some_iff.1 ho).1
    simp only [ho, List.all_eq_true, List.mem_range] at h1
    have h2 := h1 k hk
    rw [hbit] at h2
    simp only [Bool.not_true, Bool.false_or, List.any_eq_true, Array.mem_toList_iff, Bool.and_eq_true, Bool.or_eq_true, beq_iff_eq] at h2
    obtain ⟨e, he, hb, hon⟩ := h2
    rcases hon with rfl | hon
    · exact hall e he hb
    · have hlt := edgesB_spec hE ho e he hb
      have hlt2 : e.on < ops.size := Nat.lt_trans hlt (Array.getElem?_eq_some_iff.1 ho).1
      obtain ⟨oe, hoe⟩ : ∃ oe, ops[e.on]? = some oe := ⟨ops[e.on], by simp [hlt2]⟩
      exact cert_listed hE hC hdown n e.on oe (by omega) hoe (hdown e.on oe hoe (hall e he hb)) k hk hon

theorem split_mem {i : Nat} : ∀ {l : List Nat}, i ∈ l → ∃ l1 l2, l = l1 ++ i :: l2
  | k :: l, h => by
    rcases List.mem_cons.1 h with rfl | h
    · exact ⟨[], l, rfl⟩
    · obtain ⟨l1, l2, rfl⟩ := split_mem h
      exact ⟨k :: l1, l2, rfl⟩

theorem any_of_good {Q' : Exit → Act → World → Prop} (hs : Region.noSelect ops = true) (hE : edgesB ops = true) (hC : certB ops (Region.before ops) = true) :
    ∀ (n : Nat) (rem : List Nat) (listed : Array Bool) (a : Act) (w : World), rem.length = n → ((∃ i ∈ rem, cls i ≠ .last) → C0 W0 w) → listed.size = ops.size →
      rem.Pairwise (fun k i => sepB ops (Region.before ops) cls k i = true ∧ k ≠ i) → (∀ i, i ∈ rem ↔ i < ops.size ∧ listed.getD i true = false) →
      (∀ j o, ops[j]? = some o → listed.getD j true = true → ∀ e ∈ o.after, Region.binds .any e = true → listed.getD e.on true = true) →
      Good P ops W0 cls (fun a w => Q' .normal a w) rem a w → wpAny P .any ops Q' n listed a w
  | 0, rem, listed, a, w, hn, _, _, _, hmem, _, hg => by
    obtain rfl : rem = [] := List.eq_nil_of_length_eq_zero hn
    refine ⟨?_, hg (Later.self w)⟩
    rw [List.eq_nil_iff_forall_not_mem]
    intro i hi
    obtain ⟨h0, o, ho, _⟩ := mem_ready.1 hi
    exact absurd ((hmem i).2 ⟨(Array.getElem?_eq_some_iff.1 ho).1, h0⟩) (by simp)
  | n + 1, rem, listed, a, w, hn, hw, hsz, hpw, hmem, hdown, hg => by
    refine ⟨fun hr => ?_, fun i hi => ?_⟩
    · exfalso
      -- the least of what is left may come up
      have key : ∀ m i, i < m → i ∈ rem → False := by
        intro m
        induction m with
        | zero => intro i h; exact absurd h (Nat.not_lt_zero _)
        | succ m ih =>
          intro i him hir
          obtain ⟨hi1, hi2⟩ := (hmem i).1 hir
          have hready : i ∈ Region.ready .any ops listed := by
            refine mem_ready.2 ⟨hi2, ops[i], by simp [hi1], fun e he hb => ?_⟩
            have hlt := edgesB_spec hE (i := i) (o := ops[i]) (by simp [hi1]) e he hb
            have hlt2 : e.on < listed.size := by rw [hsz]; omega
            cases hl : listed.getD e.on true
            · exact (ih e.on (by omega) ((hmem e.on).2 ⟨by omega, hl⟩)).elim
            · simpa [hlt2] using hl
          rw [hr] at hready
          cases hready
      match rem, hn with
      | i :: rest, _ => exact key (i + 1) i (by omega) (by simp)
    · obtain ⟨h0, oi, hoi, hdep⟩ := mem_ready.1 hi
      have hi1 : i < ops.size := (Array.getElem?_eq_some_iff.1 hoi).1
      have hdep' : ∀ e ∈ oi.after, Region.binds .any e = true → listed.getD e.on true = true := fun e he hb => by
        have hh := hdep e he hb
        have hlt := edgesB_spec hE hoi e he hb
        have hlt2 : e.on < listed.size := by rw [hsz]; omega
        simpa [hlt2] using hh
      obtain ⟨l1, l2, rfl⟩ := split_mem ((hmem i).2 ⟨hi1, h0⟩)
      have hap : ∀ k ∈ l1, ∃ ok, ops[k]? = some ok ∧ ok.apart ops oi = true ∧ (cls k ≠ .val → cls i ≠ .loud) ∧ cls i ≠ .last := by
        intro k hk
        obtain ⟨hk1, hk2⟩ := (hmem k).1 (by simp [hk])
        have hsep := ((List.pairwise_append.1 hpw).2.2 k hk i (by simp)).1
        refine ⟨ops[k], by simp [hk1], ?_⟩
        rw [sepB, Bool.or_eq_true] at hsep
        rcases hsep with hsep | hsep
        · have := cert_listed hE hC hdown (i + 1) i oi (by omega) hoi hdep' k hk1 hsep
          rw [hk2] at this
          cases this
        · simp only [hoi, hk1, getElem?_pos, Bool.and_eq_true, Bool.or_eq_true, beq_iff_eq, bne_iff_ne] at hsep
          exact ⟨hsep.1.1, fun hv => hsep.1.2.resolve_left hv, hsep.2⟩
      have hp := pull hoi (Region.noSelect_spec hs) l1 l2 a w (fun hne => by
        obtain ⟨k, hk⟩ := List.exists_mem_of_ne_nil _ hne
        obtain ⟨_, _, _, _, h4⟩ := hap k hk
        exact hw ⟨i, by simp, h4⟩) hap hg
      have hpw' : (l1 ++ l2).Pairwise (fun k i => sepB ops (Region.before ops) cls k i = true ∧ k ≠ i) :=
        hpw.sublist (List.Sublist.append_left (List.sublist_cons_self i l2) l1)
      have hnot : i ∉ l1 ++ l2 := by
        intro hmi
        rcases List.mem_append.1 hmi with hm | hm
        · exact ((List.pairwise_append.1 hpw).2.2 i hm i (by simp)).2 rfl
        · exact ((List.pairwise_cons.1 (List.pairwise_append.1 hpw).2.1).1 i hm).2 rfl
      have hlen : (l1 ++ l2).length = n := by simp at hn ⊢; omega
      have hmem' : ∀ j, j ∈ l1 ++ l2 ↔ j < ops.size ∧ (listed.setIfInBounds i true).getD j true = false := by
        intro j
        by_cases hji : j = i
        · subst hji
          refine ⟨fun h => absurd h hnot, fun h => ?_⟩
          have hlt2 : j < listed.size := by rw [hsz]; exact hi1
          simp [hlt2] at h
        · have e : (listed.setIfInBounds i true).getD j true = listed.getD j true := getD_set_ne true (Ne.symm hji)
          rw [e, ← hmem j]
          simp [hji]
      have hdown' : ∀ j o, ops[j]? = some o → (listed.setIfInBounds i true).getD j true = true → ∀ e ∈ o.after, Region.binds .any e = true → (listed.setIfInBounds i true).getD e.on true = true := by
        intro j o ho hl e he hb
        have up : listed.getD e.on true = true → (listed.setIfInBounds i true).getD e.on true = true := fun h => by
          by_cases hei : i = e.on
          · subst hei
            have hlt2 : e.on < listed.size := by rw [hsz]; exact hi1
            simp [hlt2]
          · rw [getD_set_ne true hei]; exact h
        by_cases hji : i = j
        · subst hji
          obtain rfl : oi = o := Option.some.inj (hoi.symm.trans ho)
          exact up (hdep' e he hb)
        · rw [getD_set_ne true hji] at hl
          exact up (hdown j o ho hl e he hb)
      have next := fun (a' : Act) (w' : World) (hw' : (∃ j ∈ l1 ++ l2, cls j ≠ .last) → C0 W0 w') (hg' : Good P ops W0 cls (fun a w => Q' .normal a w) (l1 ++ l2) a' w') =>
        any_of_good (Q' := Q') hs hE hC n (l1 ++ l2) (listed.setIfInBounds i true) a' w' hlen hw' (by simpa using hsz) hpw' hmem' hdown' hg'
      unfold wpOp
      simp only [hoi]
      rcases hp with ⟨h1, h2, h3⟩ | ⟨h1, v, h2, h3⟩ | ⟨h1, h2, mk, ob, h3, h4⟩ | ⟨h1, h2, h3, h4⟩
      · have hw := hw ⟨i, by simp, by rw [h2]; simp⟩
        rw [if_pos h1]
        refine .inl ?_
        have hx := Oper.wp_mono (K' := wpAny P .any ops Q' n (listed.setIfInBounds i true)) (fun a' w' h => next a' w' (fun _ => by obtain ⟨⟨y, hy⟩, _⟩ := h; rw [hy]; exact (hw.later (Later.self w)).later y) h.2) (h3 (Later.self w))
        exact wp_of_F3 hx
      · rcases h2 with ⟨hwn, hy⟩ | ⟨hwn, rfl⟩
        · have hw := hw ⟨i, by simp, by rw [h1 hwn]; simp⟩
          rw [if_pos hwn]
          refine .inl ?_
          simp only [Oper.wp, hy w hw, Oper.upon]
          exact next _ _ (fun _ => hw) h3
        · rw [if_neg (by rw [hwn]; simp)]
          exact next _ _ (fun ⟨j, hj, hc⟩ => hw ⟨j, by rcases List.mem_append.1 hj with h | h <;> simp [h], hc⟩) h3
      · have hw := hw ⟨i, by simp, by rw [h2]; simp⟩
        rw [if_pos h1]
        refine .inl ?_
        simp only [Oper.wp, h3 w, Oper.upon]
        exact next _ _ (fun _ => hw.later (Later.new w ob)) (h4 w.heap.size (Later.new w ob) hw.size (heap_alloc_new w ob))
      · rw [if_pos h1]
        refine .inl ?_
        have hx := Oper.wp_mono (K' := wpAny P .any ops Q' n (listed.setIfInBounds i true)) (fun a' w' h => next a' w' (fun ⟨j, hj, hc⟩ => absurd (h3 j hj) hc) h) (h4 (Later.self w))
        exact wp_of_F3 hx

/-- **A region that draws its order, walked once.** -/
theorem region_mix {id : Nat} {Q' : Exit → Act → World → Prop} {a : Act} {w : World} {l : List Oper} (order : List Nat) (cls : Nat → Cls) (hm : P.follows .mixedOrders = true)
    (hB : mixB l.toArray order cls = true) (h : Good P l.toArray w cls (fun a w => Q' .normal a w) order a w) : (Code.region id l.toArray true).wp P Q' a w := by
  simp only [mixB, Bool.and_eq_true] at hB
  obtain ⟨⟨⟨⟨⟨hs, hE⟩, hC⟩, hp⟩, hr⟩, ho⟩ := hB
  refine wp_region_any hm ?_
  have hlen : order.length = l.toArray.size := by
    have hnd : order.Nodup := (pairsB_spec hp).imp (fun h => h.2)
    have h1 : ∀ i, i ∈ order ↔ i ∈ List.range l.toArray.size := fun i => by
      rw [List.mem_range]
      rw [List.all_eq_true] at ho hr
      exact ⟨fun h => of_decide_eq_true (ho i h), fun h => by have := hr i (List.mem_range.2 h); simpa using this⟩
    have hperm := (List.perm_ext_iff_of_nodup hnd List.nodup_range).2 h1
    rw [hperm.length_eq, List.length_range]
  have := any_of_good (P := P) (W0 := w) (cls := cls) (Q' := Q') hs hE hC order.length order (Array.replicate l.toArray.size false) a { w with drawn := w.drawn + 1 } rfl (fun _ => ⟨Later.draw w, rfl⟩) (by simp) (pairsB_spec hp)
    (fun i => by
      rw [List.all_eq_true] at ho hr
      constructor
      · intro h
        have hlt := of_decide_eq_true (ho i h)
        exact ⟨hlt, by simp at hlt; simp [hlt]⟩
      · intro h
        have := hr i (List.mem_range.2 h.1)
        simpa using this)
    (fun j o hj hl => by
      have hlt : j < l.toArray.size := (Array.getElem?_eq_some_iff.1 hj).1
      simp at hlt
      simp [hlt] at hl)
    (h.later (Later.draw w))
  rw [hlen] at this
  exact this
end
end Mix
end Go.Proofs.Ytbjmfhlkmklmmaa

/-
  The steps of a walk through a region that draws its order (over the law of the text before).
-/
namespace Go.Proofs.Ytbjmfhlkmklmmaa
open Go.RowKit
namespace Mix
section
variable {P : Program} {ops : Array Oper} {W0 : World} {cls : Nat → Cls} {Q : Act → World → Prop} {i : Nat} {rest : List Nat} {a : Act} {w : World} {o : Oper}

/-- Operations that can yield nothing but a value. -/
def valOp : Op → Bool
  | .move _ | .assign _ | .pick .. | .load .. | .binOp .. | .unOp .. | .fieldAddr .. | .field .. | .indexAddr .. | .index .. | .slice .. | .build .. | .extract .. | .lookup .. | .makeFunc .. | .convert .. | .makeInterface .. => true
  | .nilCheck _ => true
  | .call { callee := .builtin .len, .. } => true
  | _ => false

theorem run_v {s : Sem Value} {n : Next} {w w' : World} (h : (s >>= fun x => (pure (Next.value x) : Sem Next)).run P w = .ok n w') : ∃ u, n = .value u := by
  rw [Sem.run_bind] at h
  cases hs : s.run P w with
  | ok u w1 =>
    rw [hs] at h
    simp only [Result.andThen_ok, Sem.run_pure, Result.ok.injEq] at h
    exact ⟨u, h.1.symm⟩
  | halt x w1 => rw [hs] at h; cases h

theorem valOp_run {o : Oper} (hv : valOp o.op = true) {ρ : Operand → Value} {n : Next} {w w' : World} (h : (execOp ρ o).run P w = .ok n w') : ∃ u, n = .value u := by
  obtain ⟨dst, op, ty, pos, after, guard⟩ := o
  cases op <;> simp only [valOp] at hv <;> simp only [execOp] at h
  case move x => simp only [Sem.run_pure, Result.ok.injEq] at h; exact ⟨_, h.1.symm⟩
  case assign x => simp only [Sem.run_pure, Result.ok.injEq] at h; exact ⟨_, h.1.symm⟩
  case pick c x y =>
    rw [Sem.run_bind] at h
    cases hs : (asBool (ρ c)).run P w with
    | ok u w1 =>
      rw [hs] at h
      simp only [Result.andThen_ok, Sem.run_pure, Result.ok.injEq] at h
      exact ⟨_, h.1.symm⟩
    | halt x w1 => rw [hs] at h; cases h
  case nilCheck x =>
    generalize ρ x = v at h
    split at h
    · cases h
    · cases h
    · cases h
    · split at h
      · cases h
      · rename_i t w0 _
        rw [Sem.run_bind] at h
        cases hs : (program : Sem Program).run P w with
        | ok q w1 =>
          rw [hs, Result.andThen_ok, Sem.run_bind] at h
          generalize (nilAhead _ t w0 _).run P w1 = r at h
          cases r with
          | ok q2 w2 =>
            simp only [Result.andThen_ok] at h
            split at h
            · exact absurd h (by simp [unsupported, Sem.run, Result.andThen])
            · simp only [Sem.run_pure, Result.ok.injEq] at h; exact ⟨_, h.1.symm⟩
          | halt x w2 => cases h
        | halt x w1 => rw [hs] at h; cases h
      · simp only [Sem.run_pure, Result.ok.injEq] at h; exact ⟨_, h.1.symm⟩
    · simp only [Sem.run_pure, Result.ok.injEq] at h; exact ⟨_, h.1.symm⟩
  case call c =>
    obtain ⟨callee, args, tys⟩ := c
    cases callee
    case builtin b =>
      cases b
      case len =>
        simp only [resolve, Sem.run_bind, Sem.run_pure, Result.andThen_ok, invoke, builtin] at h
        exact run_v (s := Builtin.len_ _ _ _) (by rw [Sem.run_bind]; exact h)
      all_goals cases hv
    all_goals cases hv
  all_goals first | exact run_v h | cases hv

/-- The same, of the operations themselves in the order of the text. -/
def GoodL (P : Program) (ops : Array Oper) (W0 : World) (cls : Nat → Cls) (Q : Act → World → Prop) : Nat → List Oper → Act → World → Prop
  | _, [], a, w => ∀ x : Later w, Q a x.w
  | i, o :: rest, a, w =>
      (Region.wanted o (yielded ops a.tmps) = true ∧ cls i = .loud ∧ ∀ x : Later w, o.wp P a x.w (fun a' w' => (∃ y : Later x.w, w' = y.w) ∧ GoodL P ops W0 cls Q (i + 1) rest a' w') F3) ∨
      ((Region.wanted o (yielded ops a.tmps) = true → cls i = .val) ∧ ∃ v, YieldsIf P ops (C0 W0) o v a ∧ GoodL P ops W0 cls Q (i + 1) rest (a.put o.dst v) w) ∨
      (Region.wanted o (yielded ops a.tmps) = true ∧ cls i = .new ∧ ∃ mk ob, AllocAs P o a mk ob ∧
        ∀ (b : Nat) (x : Later w), W0.heap.size ≤ b → x.w.heap[b]? = some ob → GoodL P ops W0 cls Q (i + 1) rest (a.put o.dst (mk b)) x.w) ∨
      (Region.wanted o (yielded ops a.tmps) = true ∧ cls i = .last ∧ (∀ j, j < rest.length → cls (i + 1 + j) = .last) ∧ ∀ x : Later w, o.wp P a x.w (fun a' w' => GoodL P ops W0 cls Q (i + 1) rest a' w') F3)

theorem good_of_goodL : ∀ (l : List Oper) (k : Nat) (a : Act) (w : World), (∀ j, l[j]? = ops[k + j]?) → GoodL P ops W0 cls Q k l a w → Good P ops W0 cls Q (List.range' k l.length) a w
  | [], _, _, _, _, h => h
  | o :: l, k, a, w, hl, h => by
    have h0 : ops[k]? = some o := by simpa using (hl 0).symm
    have hl' : ∀ j, l[j]? = ops[k + 1 + j]? := fun j => by have := hl (j + 1); simpa [Nat.add_assoc, Nat.add_comm 1 j] using this
    have ih := fun a w => good_of_goodL l (k + 1) a w hl'
    rw [List.length_cons, List.range'_succ]
    intro o' ho'
    obtain rfl : o = o' := Option.some.inj (h0.symm.trans ho')
    rcases h with ⟨h1, h2, h3⟩ | ⟨h1, v, h2, h3⟩ | ⟨h1, h2, mk, ob, h3, h4⟩ | ⟨h1, h2, hl2, h3⟩
    · exact .inl ⟨h1, h2, fun x => Oper.wp_mono (fun a' w' hh => ⟨hh.1, ih a' w' hh.2⟩) (h3 x)⟩
    · exact .inr (.inl ⟨h1, v, h2, ih _ _ h3⟩)
    · exact .inr (.inr (.inl ⟨h1, h2, mk, ob, h3, fun b x hb hx => ih _ _ (h4 b x hb hx)⟩))
    · exact .inr (.inr (.inr ⟨h1, h2, fun j hj => by
        obtain ⟨q, hq, rfl⟩ := List.mem_range'.1 hj
        simpa using hl2 q hq, fun x => Oper.wp_mono (fun a' w' hh => ih a' w' hh) (h3 x)⟩))

/-- **A region that draws its order, walked once, in the order of its text.** -/
theorem region_mixL {id : Nat} {Q' : Exit → Act → World → Prop} {a : Act} {w : World} {l : List Oper} (cls : Nat → Cls) (hm : P.follows .mixedOrders = true)
    (hB : mixB l.toArray (List.range' 0 l.length) cls = true) (h : GoodL P l.toArray w cls (fun a w => Q' .normal a w) 0 l a w) : (Code.region id l.toArray true).wp P Q' a w :=
  region_mix (List.range' 0 l.length) cls hm hB (good_of_goodL l 0 a w (fun j => by simp) h)

variable {rest : List Oper}
theorem skip (hw : Region.wanted o (yielded ops a.tmps) = false) (h : GoodL P ops W0 cls Q (i + 1) rest (a.put o.dst undef) w) : GoodL P ops W0 cls Q i (o :: rest) a w :=
  .inr (.inl ⟨fun h1 => (by rw [hw] at h1; cases h1), undef, .inr ⟨hw, rfl⟩, h⟩)

theorem val (hc : cls i = .val) (hv : valOp o.op = true) (hw : Region.wanted o (yielded ops a.tmps) = true)
    (h : ∀ K : Act → Prop, (∀ a', GoodL P ops W0 cls Q (i + 1) rest a' w → K a') → o.quiet P a (fun w' => ∃ x : Later W0, w' = x.w) K) : GoodL P ops W0 cls Q i (o :: rest) a w := by
  obtain ⟨v, h1, h2⟩ := h (fun a' => GoodL P ops W0 cls Q (i + 1) rest a' w) (fun _ h => h)
  refine .inr (.inl ⟨fun _ => hc, v, .inl ⟨hw, fun w' hw' => ?_⟩, h2⟩)
  have h3 := h1 w' hw'
  unfold Oper.quietAt at h3
  cases hr : (execOp a.eval o).run P w' with
  | ok n w1 =>
    obtain ⟨u, rfl⟩ := valOp_run hv hr
    rw [hr] at h3
    simp only [Oper.quietUpon] at h3
    rw [h3.1, h3.2]
  | halt x w1 => rw [hr] at h3; exact h3.elim

theorem loud (hc : cls i = .loud) (hw : Region.wanted o (yielded ops a.tmps) = true)
    (h : ∀ (x : Later w) (K : Act → World → Prop), (∀ (a' : Act) (y : Later x.w), GoodL P ops W0 cls Q (i + 1) rest a' y.w → K a' y.w) → o.wp P a x.w K F3) : GoodL P ops W0 cls Q i (o :: rest) a w :=
  .inl ⟨hw, hc, fun x => h x _ (fun _ y hg => ⟨⟨y, rfl⟩, hg⟩)⟩

theorem new (hc : cls i = .new) (hw : Region.wanted o (yielded ops a.tmps) = true) (mk : Nat → Value) (ob : Obj) (hal : AllocAs P o a mk ob)
    (h : ∀ (b : Nat) (x : Later w), W0.heap.size ≤ b → x.w.heap[b]? = some ob → GoodL P ops W0 cls Q (i + 1) rest (a.put o.dst (mk b)) x.w) : GoodL P ops W0 cls Q i (o :: rest) a w :=
  .inr (.inr (.inl ⟨hw, hc, mk, ob, hal, h⟩))

theorem last (hc : cls i = .last) (hw : Region.wanted o (yielded ops a.tmps) = true)
    (h : ∀ (x : Later w) (K : Act → World → Prop), (∀ (a' : Act) (w' : World), GoodL P ops W0 cls Q (i + 1) [] a' w' → K a' w') → o.wp P a x.w K F3) : GoodL P ops W0 cls Q i [o] a w :=
  .inr (.inr (.inr ⟨hw, hc, fun _ hj => absurd hj (Nat.not_lt_zero _), fun x => h x _ (fun _ _ hg => hg)⟩))
/-- an operation that may change what was there: behind it come such alone -/
theorem lastR (hc : cls i = .last) (hw : Region.wanted o (yielded ops a.tmps) = true) (hr : ∀ j, j < rest.length → cls (i + 1 + j) = .last)
    (h : ∀ (x : Later w) (K : Act → World → Prop), (∀ (a' : Act) (w' : World), GoodL P ops W0 cls Q (i + 1) rest a' w' → K a' w') → o.wp P a x.w K F3) : GoodL P ops W0 cls Q i (o :: rest) a w :=
  .inr (.inr (.inr ⟨hw, hc, hr, fun x => h x _ (fun _ _ hg => hg)⟩))

theorem put_undef {a : Act} {d : Tmp} (h : a.tmps.getD d undef = undef) : a.put (some d) undef = a := by
  obtain ⟨ts, ds⟩ := a
  simp only [Act.put, Act.mk.injEq, and_true]
  apply Array.ext_getElem?
  intro j
  by_cases hj : d = j
  · subst hj
    rw [Array.getElem?_setIfInBounds]
    by_cases hlt : d < ts.size
    · simp only [Array.getD_eq_getD_getElem?, hlt, getElem?_pos, Option.getD_some] at h
      simp [hlt, h]
    · simp [hlt]
  · rw [Array.getElem?_setIfInBounds_ne hj]
/-- .. is passed over, and its slot holds nothing. -/
theorem skipU {d : Tmp} (hw : Region.wanted o (yielded ops a.tmps) = false) (hd : o.dst = some d) (hu : a.tmps.getD d undef = undef) (h : GoodL P ops W0 cls Q (i + 1) rest a w) : GoodL P ops W0 cls Q i (o :: rest) a w :=
  skip hw (by rw [hd, put_undef hu]; exact h)
/-- There is one more. -/
theorem atCons (h : GoodL P ops W0 cls Q i (o :: rest) a w) : GoodL P ops W0 cls Q i (o :: rest) a w := h
/-- the kinds of operations, by three lists of numbers -/
def kinds (news louds lasts : List Nat) (i : Nat) : Cls := if louds.contains i then .loud else if news.contains i then .new else if lasts.contains i then .last else .val
theorem done (h : ∀ x : Later w, Q a x.w) : GoodL P ops W0 cls Q i [] a w := h
end
end Mix
end Go.Proofs.Ytbjmfhlkmklmmaa

/-  A region that draws its order, inside a fence and inside a round, whose operations call nothing: by the walk outside. Plain law over the model. -/
namespace Go.Proofs.Ytbjmfhlkmklmmaa
namespace Mix
variable {P : Program} {ops : Array Oper} {F : Fence} {n : Nat}
def inOp : Op → Bool
  | .move _ | .assign _ | .pick .. | .load .. | .binOp .. | .unOp .. | .fieldAddr .. | .field .. | .indexAddr .. | .index .. | .slice .. | .build .. | .extract .. | .lookup .. | .makeFunc .. | .convert .. | .makeInterface .. | .nilCheck _ | .store .. => true
  | _ => false
theorem inOp_about {o : Oper} (h : inOp o.op = true) (w : World) (ρ : Operand → Value) : o.about P w ρ = none := by
  obtain ⟨dst, op, ty, pos, after, guard⟩ := o
  cases op <;> first | rfl | cases h
theorem run_u {s : Sem Unit} {m : Next} {w w' : World} (h : (s >>= fun _ => (pure Next.skip : Sem Next)).run P w = .ok m w') : m = .skip := by
  rw [Sem.run_bind] at h
  cases hs : s.run P w with
  | ok u w1 =>
    rw [hs] at h
    simp only [Result.andThen_ok, Sem.run_pure, Result.ok.injEq] at h
    exact h.1.symm
  | halt x w1 => rw [hs] at h; cases h
theorem inOp_run {o : Oper} (hv : inOp o.op = true) {ρ : Operand → Value} {m : Next} {w w' : World} (h : (execOp ρ o).run P w = .ok m w') : (∃ u, m = .value u) ∨ m = .skip := by
  by_cases hs : valOp o.op = true
  · exact .inl (valOp_run hs h)
  · obtain ⟨dst, op, ty, pos, after, guard⟩ := o
    cases op <;> first | (exact absurd rfl hs) | (cases hv; done) | skip
    case store t a x => exact .inr (run_u (s := Instr.storeAt t (ρ a) (ρ x)) (by simpa only [execOp] using h))
def QN (Q : Act → World → Prop) : Exit → Act → World → Prop
  | .normal, a, w => Q a w
  | _, _, _ => False
theorem wpIn_of_wp {o : Oper} (hv : inOp o.op = true) {a : Act} {w : World} {K K' : Act → World → Prop} {Q : Act → World → Prop} {Q' : Exit → Act → World → Prop} (hk : ∀ a w, K a w → K' a w) (h : o.wp P a w K (QN Q)) : o.wpIn F n P a w K' Q' := by
  refine ⟨fun f hf => (by rw [inOp_about hv] at hf; cases hf), ?_⟩
  rw [Oper.semAt_eq _ _ _ (fun c e => by rw [e] at hv; cases hv)]
  unfold Oper.wp at h
  cases hr : (execOp a.eval o).run P w with
  | ok m w' =>
    rw [hr] at h
    rcases inOp_run hv hr with ⟨u, rfl⟩ | rfl
    · exact hk _ _ h
    · exact hk _ _ h
  | halt x w' =>
    rw [hr] at h
    cases x <;> first | exact h.elim | (simp only [Oper.upon] at h)
    all_goals exact h.elim
theorem anyIn_of_any {md : Region.Mode} {Q : Act → World → Prop} {Q' : Exit → Act → World → Prop} (hops : ∀ (i : Nat) (o : Oper), ops[i]? = some o → inOp o.op = true) (hQ : ∀ a w, Q a w → Q' .normal a w) :
    ∀ (fuel : Nat) (listed : Array Bool) (a : Act) (w : World), wpAny P md ops (QN Q) fuel listed a w → wpAnyIn F n P md ops Q' fuel listed a w
  | 0, _, _, _, h => ⟨h.1, hQ _ _ h.2⟩
  | fuel + 1, listed, a, w, h => by
    refine ⟨fun h0 => hQ _ _ (h.1 h0), fun i hi => ?_⟩
    have h1 := h.2 i hi
    have ih : ∀ a w, wpAny P md ops (QN Q) fuel (listed.setIfInBounds i true) a w → wpAnyIn F n P md ops Q' fuel (listed.setIfInBounds i true) a w := fun a w => anyIn_of_any hops hQ fuel _ a w
    unfold wpOp at h1
    unfold wpOpIn
    cases ho : ops[i]? with
    | none => rw [ho] at h1; exact ih _ _ h1
    | some o =>
      rw [ho] at h1
      have hv := hops i o ho
      dsimp only at h1 ⊢
      by_cases hw : Region.wanted o (yielded ops a.tmps) = true
      · rw [if_pos hw] at h1 ⊢
        rcases h1 with h1 | ⟨_, _, _, h2⟩
        · exact wpIn_of_wp hv ih h1
        · exact h2.elim
      · rw [if_neg hw] at h1 ⊢
        exact ⟨fun f hf => (by rw [inOp_about hv] at hf; cases hf), ih _ _ h1⟩
/-- **A region that draws its order, inside a fence (and a round): walked once, in the order of its text.** -/
theorem region_mixL_in {id : Nat} {Q' : Exit → Act → World → Prop} {a : Act} {w : World} {l : List Oper} (cls : Nat → Cls) (hm : P.follows .mixedOrders = true) (hin : l.all (fun o => inOp o.op) = true)
    (hB : mixB l.toArray (List.range' 0 l.length) cls = true) (h : GoodL P l.toArray w cls (fun a w => Q' .normal a w) 0 l a w) : (Code.region id l.toArray true).wpIn F n P Q' a w := by
  have hh := good_of_goodL l 0 a w (fun j => by simp) h
  simp only [mixB, Bool.and_eq_true] at hB
  obtain ⟨⟨⟨⟨⟨hs, hE⟩, hC⟩, hp⟩, hr⟩, ho⟩ := hB
  refine wpIn_region_any hm (anyIn_of_any (Q := fun a w => Q' .normal a w) (fun i o hi => ?_) (fun _ _ h => h) _ _ _ _ ?_)
  · have : o ∈ l := by
      have := Array.mem_of_getElem? hi
      simpa using this
    exact (List.all_eq_true.1 hin) o this
  have hlen : (List.range' 0 l.length).length = l.toArray.size := by simp
  have := any_of_good (P := P) (W0 := w) (cls := cls) (Q' := QN fun a w => Q' .normal a w) hs hE hC (List.range' 0 l.length).length (List.range' 0 l.length) (Array.replicate l.toArray.size false) a { w with drawn := w.drawn + 1 } rfl (fun _ => ⟨Later.draw w, rfl⟩) (by simp) (pairsB_spec hp)
    (fun i => by
      rw [List.all_eq_true] at ho hr
      constructor
      · intro h
        have hlt := of_decide_eq_true (ho i h)
        exact ⟨hlt, by simp at hlt; simp [hlt]⟩
      · intro h
        have := hr i (List.mem_range.2 h.1)
        simpa using this)
    (fun j o hj hl => by
      have hlt : j < l.toArray.size := (Array.getElem?_eq_some_iff.1 hj).1
      simp at hlt
      simp [hlt] at hl)
    (hh.later (Later.draw w))
  rw [hlen] at this
  exact this
end Mix
end Go.Proofs.Ytbjmfhlkmklmmaa

/- A region that draws its order, from its middle on, in an order of one's own. -/
namespace Go.Proofs.Ytbjmfhlkmklmmaa
open Go.RowKit
namespace Mix
section
variable {P : Program} {ops : Array Oper} {W0 : World} {cls : Nat → Cls} {Q : Act → World → Prop} {i : Nat} {rest : List Nat} {a : Act} {w : World}

theorem gcons (o : Oper) (ho : ops[i]? = some o)
    (h : (Region.wanted o (yielded ops a.tmps) = true ∧ cls i = .loud ∧ ∀ x : Later w, o.wp P a x.w (fun a' w' => (∃ y : Later x.w, w' = y.w) ∧ Good P ops W0 cls Q rest a' w') F3) ∨
      ((Region.wanted o (yielded ops a.tmps) = true → cls i = .val) ∧ ∃ v, YieldsIf P ops (C0 W0) o v a ∧ Good P ops W0 cls Q rest (a.put o.dst v) w) ∨
      (Region.wanted o (yielded ops a.tmps) = true ∧ cls i = .new ∧ ∃ mk ob, AllocAs P o a mk ob ∧
        ∀ (b : Nat) (x : Later w), W0.heap.size ≤ b → x.w.heap[b]? = some ob → Good P ops W0 cls Q rest (a.put o.dst (mk b)) x.w) ∨
      (Region.wanted o (yielded ops a.tmps) = true ∧ cls i = .last ∧ (∀ j ∈ rest, cls j = .last) ∧ ∀ x : Later w, o.wp P a x.w (fun a' w' => Good P ops W0 cls Q rest a' w') F3)) : Good P ops W0 cls Q (i :: rest) a w := fun o' ho' => by
  cases Option.some.inj (ho.symm.trans ho')
  exact h
theorem gloud (o : Oper) (ho : ops[i]? = some o) (hc : cls i = .loud) (hw : Region.wanted o (yielded ops a.tmps) = true)
    (h : ∀ (x : Later w) (K : Act → World → Prop), (∀ (a' : Act) (y : Later x.w), Good P ops W0 cls Q rest a' y.w → K a' y.w) → o.wp P a x.w K F3) : Good P ops W0 cls Q (i :: rest) a w :=
  gcons o ho (.inl ⟨hw, hc, fun x => h x _ (fun _ y hg => ⟨⟨y, rfl⟩, hg⟩)⟩)
theorem gnew (o : Oper) (ho : ops[i]? = some o) (hc : cls i = .new) (hw : Region.wanted o (yielded ops a.tmps) = true) (mk : Nat → Value) (ob : Obj) (hal : AllocAs P o a mk ob)
    (h : ∀ (b : Nat) (x : Later w), W0.heap.size ≤ b → x.w.heap[b]? = some ob → Good P ops W0 cls Q rest (a.put o.dst (mk b)) x.w) : Good P ops W0 cls Q (i :: rest) a w :=
  gcons o ho (.inr (.inr (.inl ⟨hw, hc, mk, ob, hal, h⟩)))
theorem glast (o : Oper) (ho : ops[i]? = some o) (hc : cls i = .last) (hw : Region.wanted o (yielded ops a.tmps) = true) (hr : ∀ j ∈ rest, cls j = .last)
    (h : ∀ (x : Later w) (K : Act → World → Prop), (∀ (a' : Act) (w' : World), Good P ops W0 cls Q rest a' w' → K a' w') → o.wp P a x.w K F3) : Good P ops W0 cls Q (i :: rest) a w :=
  gcons o ho (.inr (.inr (.inr ⟨hw, hc, hr, fun x => h x _ (fun _ _ hg => hg)⟩)))
theorem gdone (h : ∀ x : Later w, Q a x.w) : Good P ops W0 cls Q [] a w := h

def restB (ops : Array Oper) (listed : Array Bool) (rem : List Nat) (cls : Nat → Cls) (n : Nat) : Bool :=
  Region.noSelect ops && edgesB ops && certB ops (Region.before ops) && pairsB (sepB ops (Region.before ops) cls) rem && (listed.size == ops.size) && (rem.length == n) &&
    (List.range ops.size).all (fun i => rem.contains i == !listed.getD i true) && rem.all (fun i => decide (i < ops.size)) &&
    (List.range ops.size).all (fun j => !listed.getD j true || match ops[j]? with
      | some o => o.after.all fun e => !Region.binds .any e || listed.getD e.on true
      | none => true)
theorem any_rest {Q' : Exit → Act → World → Prop} {listed : Array Bool} {rem : List Nat} {n : Nat} (hB : restB ops listed rem cls n = true) (hw : C0 W0 w) (h : Good P ops W0 cls (fun a w => Q' .normal a w) rem a w) : wpAny P .any ops Q' n listed a w := by
  simp only [restB, Bool.and_eq_true] at hB
  obtain ⟨⟨⟨⟨⟨⟨⟨⟨hs, hE⟩, hC⟩, hp⟩, hsz⟩, hn⟩, hm⟩, ho⟩, hd⟩ := hB
  refine any_of_good hs hE hC n rem listed a w (by simpa using hn) (fun _ => hw) (by simpa using hsz) (pairsB_spec hp) (fun i => ?_) (fun j o hj hl e he hb => ?_) h
  · rw [List.all_eq_true] at hm ho
    constructor
    · intro hi
      have hlt := of_decide_eq_true (ho i hi)
      have := hm i (List.mem_range.2 hlt)
      rw [List.contains_iff_mem.2 hi] at this
      exact ⟨hlt, by simpa using this⟩
    · rintro ⟨hlt, hl⟩
      have := hm i (List.mem_range.2 hlt)
      rw [hl] at this
      simpa using this
  · rw [List.all_eq_true] at hd
    have := hd j (List.mem_range.2 (Array.getElem?_eq_some_iff.1 hj).1)
    rw [hl, hj] at this
    simp only [Bool.not_true, Bool.false_or] at this
    have := Array.all_eq_true'.1 this e he
    rw [hb] at this
    simpa using this
end
end Mix
end Go.Proofs.Ytbjmfhlkmklmmaa
