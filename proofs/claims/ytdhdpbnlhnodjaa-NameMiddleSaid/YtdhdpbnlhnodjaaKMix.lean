import Derived.Test.YtdhdpbnlhnodjaaKBase
import Derived.OrdersHeld
import Derived.OrdersIn
/-  The orders of a region with many operations: off a table, so that the kernel has little to reckon. -/
namespace Go.Proofs.Ytdhdpbnlhnodjaa

/-- what counts of an operation for the orders: on which it waits, what it writes, where it looks -/
structure Tab where
  after : List Nat
  dst : Option Nat
  looks : List Nat
def tabOp (ops : Array Oper) (o : Oper) : Tab := ⟨(o.after.toList.filter (Region.binds .any)).map (·.on), o.dst, o.looksAt ops⟩
def Tab.apart (x y : Tab) : Bool := (match x.dst with | some d => !y.looks.contains d && y.dst != some d | none => true) && (match y.dst with | some d => !x.looks.contains d | none => true)
def tabChk : List Tab → Nat → Bool
  | [], _ => true
  | t :: r, k => t.after.all (fun j => Nat.blt j k) && r.all (fun u => u.after.contains k || t.apart u) && tabChk r (k + 1)
theorem tab_apart (ops : Array Oper) (x y : Oper) : (tabOp ops x).apart (tabOp ops y) = x.apart ops y := rfl
theorem tab_any (ops : Array Oper) (o : Oper) (k : Nat) : (tabOp ops o).after.contains k = o.after.any (fun e => Region.binds .any e && e.on == k) := by
  rw [Bool.eq_iff_iff, List.contains_iff_mem, Array.any_eq_true']
  simp only [tabOp, List.mem_map, List.mem_filter, Array.mem_toList_iff, Bool.and_eq_true, beq_iff_eq, and_assoc]
theorem lexFrom_tab (ops : Array Oper) : ∀ (r pre : List Oper) (listed : Array Bool), ops.toList = pre ++ r → (∀ j d, j < ops.size → listed.getD j d = decide (j < pre.length)) → listed.size = ops.size →
    tabChk (r.map (tabOp ops)) pre.length = true → Region.lexFrom .any ops r.length pre.length listed = true
  | [], pre, listed, he, hl, _, _ => by
    have hsz : ops.size = pre.length := by rw [← Array.length_toList, he]; simp
    show (Region.ready .any ops listed).isEmpty = true
    rw [List.isEmpty_iff]
    refine List.eq_nil_iff_forall_not_mem.2 fun j hj => ?_
    obtain ⟨h1, o, h2, _⟩ := mem_ready.1 hj
    have hlt := (Array.getElem?_eq_some_iff.1 h2).1
    rw [hl j true hlt, decide_eq_false_iff_not] at h1
    omega
  | o :: r, pre, listed, he, hl, hsz, hc => by
    have hn : ops.size = pre.length + (r.length + 1) := by rw [← Array.length_toList, he]; simp
    have ho : ops[pre.length]? = some o := by rw [← Array.getElem?_toList, he]; simp
    simp only [List.map_cons, tabChk, Bool.and_eq_true] at hc
    obtain ⟨⟨h1, h2⟩, h3⟩ := hc
    show ((Region.ready .any ops listed).contains pre.length && Region.free .any ops listed pre.length && Region.lexFrom .any ops r.length (pre.length + 1) (listed.setIfInBounds pre.length true)) = true
    rw [Bool.and_eq_true, Bool.and_eq_true]
    refine ⟨⟨?_, ?_⟩, ?_⟩
    · rw [List.contains_iff_mem]
      refine mem_ready.2 ⟨by rw [hl _ true (by omega)]; simp, o, ho, fun e he' hb => ?_⟩
      have := List.all_eq_true.1 h1 e.on (List.mem_map.2 ⟨e, List.mem_filter.2 ⟨Array.mem_toList_iff.2 he', hb⟩, rfl⟩)
      have hlt : e.on < pre.length := by simpa using this
      rw [hl _ false (by omega), decide_eq_true hlt]
    · unfold Region.free
      rw [ho]
      refine List.all_eq_true.2 fun j hj => ?_
      rw [List.mem_range] at hj
      rw [Bool.or_eq_true, Bool.or_eq_true, beq_iff_eq, hl j true hj, decide_eq_true_iff]
      by_cases hjk : j ≤ pre.length
      · exact .inl (by omega)
      · right
        obtain ⟨i, hi⟩ : ∃ i, j = pre.length + (i + 1) := ⟨j - pre.length - 1, by omega⟩
        have hir : i < r.length := by omega
        have hoj : ops[j]? = some r[i] := by
          rw [← Array.getElem?_toList, he, hi, List.getElem?_append_right (by omega)]
          simp [hir]
        rw [hoj]
        have := List.all_eq_true.1 h2 (tabOp ops r[i]) (List.mem_map.2 ⟨r[i], List.getElem_mem hir, rfl⟩)
        rw [tab_any, tab_apart] at this
        exact this
    · have := lexFrom_tab ops r (pre ++ [o]) (listed.setIfInBounds pre.length true) (by rw [he]; simp) (fun j d hj => ?_) (by rw [Array.size_setIfInBounds]; exact hsz) (by rw [List.length_append]; exact h3)
      · rw [List.length_append] at this
        exact this
      · have h := hl j d hj
        rw [List.length_append, List.length_singleton]
        simp only [Array.getD_eq_getD_getElem?] at h ⊢
        rw [Array.getElem?_setIfInBounds]
        by_cases e : pre.length = j
        · subst e
          rw [if_pos rfl, if_pos (by omega)]
          simp
        · rw [if_neg e, h, Bool.eq_iff_iff, decide_eq_true_iff, decide_eq_true_iff]
          omega
theorem lexB_tab {l : List Oper} (T : List Tab) (hs : Region.noSelect l.toArray = true) (hT : l.map (tabOp l.toArray) = T) (hc : tabChk T 0 = true) : Region.lexB .any l.toArray = true := by
  rw [Region.lexB, hs, Bool.true_and]
  subst hT
  have := lexFrom_tab l.toArray l [] (Array.replicate l.toArray.size false) rfl (fun j d hj => by
    have hj' : j < l.length := by simpa using hj
    simp [Array.getD_eq_getD_getElem?, hj']) (by simp) hc
  simpa using this

/-- A slice of bytes that reads as a list of numbers. -/
def Byts (w : World) (v : Value) (xs : List Int) : Prop :=
  xs.length ≤ 9007199254740992 ∧ (∀ k, k < xs.length → 0 ≤ nth xs k ∧ nth xs k ≤ 255) ∧ ((xs = [] ∧ ∃ a cap, v = .slice a 0 cap) ∨
    ∃ b off cap, v = .slice (some ⟨b, off, none⟩) xs.length cap ∧ xs.length ≤ cap ∧ b < w.heap.size ∧ ∀ k, k < xs.length → w.cell? ⟨b, off + k, none⟩ = some (.int .u8 (nth xs k)))
theorem Byts.later {w : World} {v : Value} {xs : List Int} (h : Byts w v xs) (x : Later w) : Byts x.w v xs := by
  obtain ⟨h1, h3, h2 | ⟨b, off, cap, hv, hl, hb, hc⟩⟩ := h
  · exact ⟨h1, h3, .inl h2⟩
  · exact ⟨h1, h3, .inr ⟨b, off, cap, hv, hl, Nat.lt_of_lt_of_le hb x.size, fun k hk => (x.cell hb).trans (hc k hk)⟩⟩
theorem Byts.form {w : World} {v : Value} {xs : List Int} (h : Byts w v xs) : ∃ a cap, v = .slice a xs.length cap := by
  obtain ⟨h1, _, ⟨rfl, a, cap, rfl⟩ | ⟨b, off, cap, rfl, _⟩⟩ := h
  · exact ⟨a, cap, rfl⟩
  · exact ⟨_, cap, rfl⟩
theorem Byts.at {w : World} {v : Value} {xs : List Int} (h : Byts w v xs) {k : Nat} (hk : k < xs.length) :
    ∃ b off cap, v = .slice (some ⟨b, off, none⟩) xs.length cap ∧ xs.length ≤ cap ∧ b < w.heap.size ∧ ∀ k, k < xs.length → w.cell? ⟨b, off + k, none⟩ = some (.int .u8 (nth xs k)) := by
  obtain ⟨h1, _, ⟨rfl, _⟩ | h2⟩ := h
  · simp at hk
  · exact h2
end Go.Proofs.Ytdhdpbnlhnodjaa

/-
  A region that draws its order of evaluation, walked once in the order of its text: its operations yield the same in every later world, or make a new block, or are ordered among each other by the region's own edges. Plain law over any program.
-/
namespace Go.Proofs.Ytdhdpbnlhnodjaa
open Go.RowKit
namespace Mix
section
variable {P : Program} {ops : Array Oper}

def F3 : Exit → Act → World → Prop := fun _ _ _ => False

theorem wp_put_out {o : Oper} {a : Act} {w : World} {d : Option Tmp} {v : Value} {K : Act → World → Prop} (hs : ∀ cs b, o.op ≠ .select cs b)
    (h1 : ∀ t, d = some t → t ∉ o.looksAt ops) (h2 : ∀ t, d = some t → o.dst ≠ some t) (h : o.wp P (a.put d v) w K F3) :
    o.wp P a w (fun a' w' => K (a'.put d v) w') F3 := by
  unfold Oper.wp at *
  rw [execOp_put o hs a d v h1] at h
  generalize (execOp a.eval o).run P w = r at *
  cases r with
  | ok n w' =>
    cases n <;> simp only [Oper.upon] at h ⊢
    case value u => rw [← Act.put_comm a v u h2]; exact h
    case skip => rw [← Act.put_comm a v undef h2]; exact h
    case defer q => rw [← Act.put_comm _ v undef h2, ← Act.put_defers]; exact h
    case enter f args =>
      refine Calls.mono h fun e w'' he => ?_
      cases e with
      | returned u => show K _ _; rw [← Act.put_comm a v u h2]; exact he
      | panicked c => exact he
      | outgrown => exact he
    case row row args => exact Rows.mono h fun u w'' he => by show K _ _; rw [← Act.put_comm a v u h2]; exact he
  | halt x w' => cases x <;> simp only [Oper.upon] at h ⊢ <;> exact h

theorem wp_put_in {o : Oper} {a : Act} {w : World} {d : Option Tmp} {v : Value} {K : Act → World → Prop} (hs : ∀ cs b, o.op ≠ .select cs b)
    (h1 : ∀ t, d = some t → t ∉ o.looksAt ops) (h2 : ∀ t, d = some t → o.dst ≠ some t) (h : o.wp P a w (fun a' w' => K (a'.put d v) w') F3) :
    o.wp P (a.put d v) w K F3 := by
  unfold Oper.wp at *
  rw [execOp_put o hs a d v h1]
  generalize (execOp a.eval o).run P w = r at *
  cases r with
  | ok n w' =>
    cases n <;> simp only [Oper.upon] at h ⊢
    case value u => rw [Act.put_comm a v u h2]; exact h
    case skip => rw [Act.put_comm a v undef h2]; exact h
    case defer q => rw [Act.put_defers, Act.put_comm _ v undef h2]; exact h
    case enter f args =>
      refine Calls.mono h fun e w'' he => ?_
      cases e with
      | returned u => show K _ _; rw [Act.put_comm a v u h2]; exact he
      | panicked c => exact he
      | outgrown => exact he
    case row row args => exact Rows.mono h fun u w'' he => by show K _ _; rw [Act.put_comm a v u h2]; exact he
  | halt x w' => cases x <;> simp only [Oper.upon] at h ⊢ <;> exact h

/-- What an operation comes to, once. -/
theorem wp_witness {o : Oper} {a : Act} {w : World} {K : Act → World → Prop} (h : o.wp P a w K F3) : ∃ ds u w', K (({ a with defers := ds } : Act).put o.dst u) w' := by
  unfold Oper.wp at h
  generalize (execOp a.eval o).run P w = r at *
  cases r with
  | ok n w' =>
    cases n <;> simp only [Oper.upon] at h
    case value u => exact ⟨a.defers, u, w', h⟩
    case skip => exact ⟨a.defers, undef, w', h⟩
    case defer q => exact ⟨_, undef, w', h⟩
    case enter f args =>
      obtain ⟨e, w'', fr, he, _⟩ := h []
      cases e with
      | returned u => exact ⟨a.defers, u, w'', he⟩
      | panicked c => exact he.elim
      | outgrown => obtain ⟨_, _, h⟩ := he; exact h.elim
    case row row args =>
      obtain ⟨u, w'', he, _⟩ := h default []
      exact ⟨a.defers, u, w'', he⟩
  | halt x w' => cases x <;> simp only [Oper.upon] at h <;> exact h.elim

theorem wp_mono_act {o : Oper} {a : Act} {w : World} {K K' : Act → World → Prop} (h : o.wp P a w K F3)
    (hk : ∀ ds u w', K (({ a with defers := ds } : Act).put o.dst u) w' → K' (({ a with defers := ds } : Act).put o.dst u) w') : o.wp P a w K' F3 := by
  unfold Oper.wp at *
  generalize (execOp a.eval o).run P w = r at *
  cases r with
  | ok n w' =>
    cases n <;> simp only [Oper.upon] at h ⊢
    case value u => exact hk a.defers u _ h
    case skip => exact hk a.defers undef _ h
    case defer q => exact hk _ undef _ h
    case enter f args =>
      refine Calls.mono h fun e w'' he => ?_
      cases e with
      | returned u => exact hk a.defers u _ he
      | panicked c => exact he
      | outgrown => exact he
    case row row args => exact Rows.mono h fun u w'' he => hk a.defers u _ he
  | halt x w' => cases x <;> simp only [Oper.upon] at h ⊢ <;> exact h

theorem wp_of_F3 {o : Oper} {a : Act} {w : World} {K : Act → World → Prop} {Q' : Exit → Act → World → Prop} (h : o.wp P a w K F3) : o.wp P a w K Q' := by
  unfold Oper.wp at *
  generalize (execOp a.eval o).run P w = r at *
  cases r with
  | ok n w' =>
    cases n <;> simp only [Oper.upon] at h ⊢
    case value u => exact h
    case skip => exact h
    case defer q => exact h
    case enter f args =>
      refine Calls.mono h fun e w'' he => ?_
      cases e with
      | returned u => exact he
      | panicked c => exact he.elim
      | outgrown => obtain ⟨_, _, h⟩ := he; exact h.elim
    case row row args => exact h
  | halt x w' => cases x <;> simp only [Oper.upon] at h ⊢ <;> exact h.elim

/-- An operation that makes one new block, and yields what points at it. -/
def AllocAs (P : Program) (o : Oper) (a : Act) (mk : Nat → Value) (ob : Obj) : Prop := ∀ w : World, (execOp a.eval o).run P w = .ok (.value (mk w.heap.size)) (w.alloc ob)

inductive Cls where
  | val | new | loud | last
  deriving DecidableEq

def C0 (W0 : World) (w : World) : Prop := ∃ x : Later W0, w = x.w

def Good (P : Program) (ops : Array Oper) (W0 : World) (cls : Nat → Cls) (Q : Act → World → Prop) : List Nat → Act → World → Prop
  | [], a, w => ∀ x : Later w, Q a x.w
  | i :: rest, a, w => ∀ o, ops[i]? = some o →
      (Region.wanted o (yielded ops a.tmps) = true ∧ cls i = .loud ∧ ∀ x : Later w, o.wp P a x.w (fun a' w' => (∃ y : Later x.w, w' = y.w) ∧ Good P ops W0 cls Q rest a' w') F3) ∨
      ((Region.wanted o (yielded ops a.tmps) = true → cls i = .val) ∧ ∃ v, YieldsIf P ops (C0 W0) o v a ∧ Good P ops W0 cls Q rest (a.put o.dst v) w) ∨
      (Region.wanted o (yielded ops a.tmps) = true ∧ cls i = .new ∧ ∃ mk ob, AllocAs P o a mk ob ∧
        ∀ (b : Nat) (x : Later w), W0.heap.size ≤ b → x.w.heap[b]? = some ob → Good P ops W0 cls Q rest (a.put o.dst (mk b)) x.w) ∨
      (Region.wanted o (yielded ops a.tmps) = true ∧ cls i = .last ∧ (∀ j ∈ rest, cls j = .last) ∧ ∀ x : Later w, o.wp P a x.w (fun a' w' => Good P ops W0 cls Q rest a' w') F3)

variable {W0 : World} {cls : Nat → Cls} {Q : Act → World → Prop}

theorem Good.later : ∀ {l : List Nat} {a : Act} {w : World}, Good P ops W0 cls Q l a w → ∀ x : Later w, Good P ops W0 cls Q l a x.w
  | [], _, _, h, x => fun y => h (x.step y)
  | i :: rest, a, w, h, x => fun o ho => by
    rcases h o ho with ⟨h1, h2, h3⟩ | ⟨h1, v, h2, h3⟩ | ⟨h1, h2, mk, ob, h3, h4⟩ | ⟨h1, h2, h3, h4⟩
    · exact .inl ⟨h1, h2, fun y => h3 (x.step y)⟩
    · exact .inr (.inl ⟨h1, v, h2, h3.later x⟩)
    · exact .inr (.inr (.inl ⟨h1, h2, mk, ob, h3, fun b y hb hy => h4 b (x.step y) hb hy⟩))
    · exact .inr (.inr (.inr ⟨h1, h2, h3, fun y => h4 (x.step y)⟩))

theorem C0.self (W0 : World) : C0 W0 W0 := ⟨Later.self _, rfl⟩
theorem C0.later {w : World} (h : C0 W0 w) (x : Later w) : C0 W0 x.w := by
  obtain ⟨y, rfl⟩ := h
  exact ⟨y.step x, rfl⟩
theorem C0.size {w : World} (h : C0 W0 w) : W0.heap.size ≤ w.heap.size := by
  obtain ⟨y, rfl⟩ := h
  exact y.size

theorem yieldsIf_unique {o : Oper} {a : Act} {v v' : Value} (h : YieldsIf P ops (C0 W0) o v a) (h' : YieldsIf P ops (C0 W0) o v' a) : v = v' := by
  rcases h with ⟨h1, h2⟩ | ⟨h1, rfl⟩ <;> rcases h' with ⟨h1', h2'⟩ | ⟨h1', rfl⟩
  · have e1 := h2 W0 (C0.self _)
    have e2 := h2' W0 (C0.self _)
    rw [e1] at e2
    cases e2; rfl
  · rw [h1] at h1'; cases h1'
  · rw [h1] at h1'; cases h1'
  · rfl

theorem yieldsIf_put {o : Oper} {a : Act} {v u : Value} {d : Option Tmp} (hs : ∀ cs b, o.op ≠ .select cs b) (h1 : ∀ t, d = some t → t ∉ o.looksAt ops) :
    YieldsIf P ops (C0 W0) o v (a.put d u) ↔ YieldsIf P ops (C0 W0) o v a := by
  unfold YieldsIf
  rw [execOp_put o hs a d u h1, wanted_put o a d u h1]

theorem allocAs_put {o : Oper} {a : Act} {u : Value} {d : Option Tmp} {mk : Nat → Value} {ob : Obj} (hs : ∀ cs b, o.op ≠ .select cs b) (h1 : ∀ t, d = some t → t ∉ o.looksAt ops) :
    AllocAs P o (a.put d u) mk ob ↔ AllocAs P o a mk ob := by
  unfold AllocAs
  rw [execOp_put o hs a d u h1]

theorem size_any (n : Nat) : ∃ w : World, w.heap.size = n := ⟨{ (default : World) with heap := Array.replicate n default }, by simp⟩

theorem allocAs_unique {o : Oper} {a : Act} {mk mk' : Nat → Value} {ob ob' : Obj} (h : AllocAs P o a mk ob) (h' : AllocAs P o a mk' ob') : (∀ n, mk n = mk' n) ∧ ob = ob' := by
  refine ⟨fun n => ?_, ?_⟩
  · obtain ⟨w, rfl⟩ := size_any n
    have e := (h w).symm.trans (h' w)
    simp only [Result.ok.injEq, Next.value.injEq] at e
    exact e.1
  · have e := (h default).symm.trans (h' default)
    simp only [Result.ok.injEq] at e
    have e2 := congrArg World.heap e.2
    simp only [World.alloc] at e2
    exact (Array.push_eq_push.1 e2).1

/-- What is pulled ahead of the rest. -/
def Pulled (P : Program) (ops : Array Oper) (W0 : World) (cls : Nat → Cls) (Q : Act → World → Prop) (i : Nat) (o : Oper) (l : List Nat) (a : Act) (w : World) : Prop :=
  (Region.wanted o (yielded ops a.tmps) = true ∧ cls i = .loud ∧ ∀ x : Later w, o.wp P a x.w (fun a' w' => (∃ y : Later x.w, w' = y.w) ∧ Good P ops W0 cls Q l a' w') F3) ∨
  ((Region.wanted o (yielded ops a.tmps) = true → cls i = .val) ∧ ∃ v, YieldsIf P ops (C0 W0) o v a ∧ Good P ops W0 cls Q l (a.put o.dst v) w) ∨
  (Region.wanted o (yielded ops a.tmps) = true ∧ cls i = .new ∧ ∃ mk ob, AllocAs P o a mk ob ∧
    ∀ (b : Nat) (x : Later w), W0.heap.size ≤ b → x.w.heap[b]? = some ob → Good P ops W0 cls Q l (a.put o.dst (mk b)) x.w) ∨
  (Region.wanted o (yielded ops a.tmps) = true ∧ cls i = .last ∧ (∀ j ∈ l, cls j = .last) ∧ ∀ x : Later w, o.wp P a x.w (fun a' w' => Good P ops W0 cls Q l a' w') F3)

theorem wanted_defers (o : Oper) (a : Act) (ds : List Deferred) : Region.wanted o (yielded ops ({ a with defers := ds } : Act).tmps) = Region.wanted o (yielded ops a.tmps) := rfl

theorem pull {i : Nat} {oi : Oper} (hoi : ops[i]? = some oi) (hsel : ∀ (j : Nat) (o : Oper) cs b, ops[j]? = some o → o.op ≠ .select cs b) :
    ∀ (l1 l2 : List Nat) (a : Act) (w : World), (l1 ≠ [] → C0 W0 w) → (∀ k ∈ l1, ∃ ok, ops[k]? = some ok ∧ ok.apart ops oi = true ∧ (cls k ≠ .val → cls i ≠ .loud) ∧ cls i ≠ .last) →
      Good P ops W0 cls Q (l1 ++ i :: l2) a w → Pulled P ops W0 cls Q i oi (l1 ++ l2) a w
  | [], l2, a, w, _, _, h => h oi hoi
  | k :: l1, l2, a, w, hw, hap, h => by
    have hw := hw (by simp)
    have hsi := fun cs b => hsel i oi cs b hoi
    obtain ⟨ok, hok, hapk, hcl, hla⟩ := hap k (by simp)
    have hsk := fun cs b => hsel k ok cs b hok
    obtain ⟨hA, hB, hC⟩ := Oper.apart_spec hapk
    -- hA: k's slot is not looked at by i; hB: other slots; hC: i's slot is not looked at by k
    have hB' : ∀ t, oi.dst = some t → ok.dst ≠ some t := fun t ht hk => hB t hk ht
    have ih := fun (a : Act) (w : World) (hw : C0 W0 w) => pull hoi hsel l1 l2 a w (fun _ => hw) (fun k' hk' => hap k' (by simp [hk']))
    have wi : ∀ (a : Act) u, Region.wanted oi (yielded ops (a.put ok.dst u).tmps) = Region.wanted oi (yielded ops a.tmps) := fun a u => wanted_put oi a ok.dst u hA
    have wk : ∀ (a : Act) u, Region.wanted ok (yielded ops (a.put oi.dst u).tmps) = Region.wanted ok (yielded ops a.tmps) := fun a u => wanted_put ok a oi.dst u hC
    rcases h ok hok with ⟨k1, k2, k3⟩ | ⟨k1, vk, k2, k3⟩ | ⟨k1, k2, mk, ob, k3, k4⟩ | ⟨_, _, k3, _⟩
    · -- k is loud
      have hil : cls i ≠ .loud := hcl (by rw [k2]; simp)
      obtain ⟨ds, u, w1, ⟨y1, hy1⟩, hg⟩ := wp_witness (k3 (Later.self w))
      have hw1 : C0 W0 w1 := by rw [hy1]; exact (hw.later (Later.self w)).later y1
      rcases ih _ _ hw1 hg with ⟨_, i2, _⟩ | ⟨i1, v, i2, _⟩ | ⟨i1, i2, mk, ob, i3, _⟩ | ⟨_, i2, _⟩
      rotate_left 3
      · exact absurd i2 hla
      · exact absurd i2 hil
      · refine .inr (.inl ⟨fun hwn => i1 (by rw [wi]; exact hwn), v, ?_, ?_⟩)
        · exact (yieldsIf_put (a := { a with defers := ds }) hsi hA).1 i2
        · have hyi : YieldsIf P ops (C0 W0) oi v a := (yieldsIf_put (a := { a with defers := ds }) hsi hA).1 i2
          intro o ho
          obtain rfl : ok = o := Option.some.inj (hok.symm.trans ho)
          refine .inl ⟨by rw [wk]; exact k1, k2, fun x => wp_put_in hsk hC hB' ?_⟩
          refine wp_mono_act (k3 x) ?_
          rintro ds' u' w' ⟨⟨y, hy⟩, hg'⟩
          refine ⟨⟨y, hy⟩, ?_⟩
          have hw' : C0 W0 w' := by rw [hy]; exact (hw.later x).later y
          rcases ih _ _ hw' hg' with ⟨_, j2, _⟩ | ⟨j1, v', j2, j3⟩ | ⟨j1, j2, _⟩ | ⟨_, j2, _⟩
          rotate_left 3
          · exact absurd j2 hla
          · exact absurd j2 hil
          · have e : v = v' := yieldsIf_unique hyi ((yieldsIf_put (a := { a with defers := ds' }) hsi hA).1 j2)
            rw [e]; exact j3
          · rw [wi] at j1
            exact absurd (i1 (by rw [wi]; exact j1)) (by rw [j2]; simp)
      · refine .inr (.inr (.inl ⟨by rw [wi] at i1; exact i1, i2, mk, ob, (allocAs_put (a := { a with defers := ds }) hsi hA).1 i3, ?_⟩))
        have hai : AllocAs P oi a mk ob := (allocAs_put (a := { a with defers := ds }) hsi hA).1 i3
        intro b x hb hx o ho
        obtain rfl : ok = o := Option.some.inj (hok.symm.trans ho)
        refine .inl ⟨by rw [wk]; exact k1, k2, fun x2 => wp_put_in hsk hC hB' ?_⟩
        refine wp_mono_act (k3 (x.step x2)) ?_
        rintro ds' u' w' ⟨⟨y, hy⟩, hg'⟩
        refine ⟨⟨y, hy⟩, ?_⟩
        have hw' : C0 W0 w' := by rw [hy]; exact (hw.later (x.step x2)).later y
        have hbw : w'.heap[b]? = some ob := by
          have hlt : b < x.w.heap.size := (Array.getElem?_eq_some_iff.1 hx).1
          rw [hy]
          exact (y.le.block b (Nat.lt_of_lt_of_le hlt x2.size)).trans ((x2.le.block b hlt).trans hx)
        rcases ih _ _ hw' hg' with ⟨_, j2, _⟩ | ⟨j1, v', j2, j3⟩ | ⟨j1, j2, mk', ob', j3, j4⟩ | ⟨_, j2, _⟩
        rotate_left 3
        · exact absurd j2 hla
        · exact absurd j2 hil
        · have hwn : Region.wanted oi (yielded ops a.tmps) = true := by rw [wi] at i1; exact i1
          exact absurd (j1 (by rw [wi]; exact hwn)) (by rw [i2]; simp)
        · obtain ⟨e1, e2⟩ := allocAs_unique hai ((allocAs_put (a := { a with defers := ds' }) hsi hA).1 j3)
          rw [e1 b]
          exact j4 b (Later.self _) hb (by rw [← e2]; exact hbw)
    · -- k yields a value
      rcases ih _ _ hw k3 with ⟨i1, i2, i3⟩ | ⟨i1, v, i2, i3⟩ | ⟨i1, i2, mk, ob, i3, i4⟩ | ⟨_, i2, _⟩
      rotate_left 3
      · exact absurd i2 hla
      · refine .inl ⟨by rw [wi] at i1; exact i1, i2, fun x => ?_⟩
        refine wp_mono_act (wp_put_out hsi hA (fun t ht => hB t ht) (i3 x)) ?_
        rintro ds' u' w' ⟨hy, hg'⟩
        refine ⟨hy, fun o ho => ?_⟩
        obtain rfl : ok = o := Option.some.inj (hok.symm.trans ho)
        exact .inr (.inl ⟨fun hwn => k1 (by rw [wk] at hwn; exact hwn), vk, (yieldsIf_put (a := { a with defers := ds' }) hsk hC).2 k2, hg'⟩)
      · refine .inr (.inl ⟨fun hwn => i1 (by rw [wi]; exact hwn), v, (yieldsIf_put hsi hA).1 i2, fun o ho => ?_⟩)
        obtain rfl : ok = o := Option.some.inj (hok.symm.trans ho)
        refine .inr (.inl ⟨fun hwn => k1 (by rw [wk] at hwn; exact hwn), vk, (yieldsIf_put hsk hC).2 k2, ?_⟩)
        rw [← Act.put_comm a vk v hB]
        exact i3
      · refine .inr (.inr (.inl ⟨by rw [wi] at i1; exact i1, i2, mk, ob, (allocAs_put hsi hA).1 i3, fun b x hb hx o ho => ?_⟩))
        obtain rfl : ok = o := Option.some.inj (hok.symm.trans ho)
        refine .inr (.inl ⟨fun hwn => k1 (by rw [wk] at hwn; exact hwn), vk, (yieldsIf_put hsk hC).2 k2, ?_⟩)
        rw [← Act.put_comm a vk (mk b) hB]
        exact i4 b x hb hx
    · -- k makes a block
      have first := ih _ _ (hw.later (Later.new w ob)) (k4 w.heap.size (Later.new w ob) hw.size (heap_alloc_new w ob))
      rcases first with ⟨i1, i2, _⟩ | ⟨i1, v, i2, _⟩ | ⟨i1, i2, mi, obi, i3, _⟩ | ⟨_, i2, _⟩
      rotate_left 3
      · exact absurd i2 hla
      · exact absurd i2 (hcl (by rw [k2]; simp))
      · have hyi : YieldsIf P ops (C0 W0) oi v a := (yieldsIf_put hsi hA).1 i2
        refine .inr (.inl ⟨fun hwn => i1 (by rw [wi]; exact hwn), v, hyi, fun o ho => ?_⟩)
        obtain rfl : ok = o := Option.some.inj (hok.symm.trans ho)
        refine .inr (.inr (.inl ⟨by rw [wk]; exact k1, k2, mk, ob, (allocAs_put hsk hC).2 k3, fun b x hb hx => ?_⟩))
        rcases ih _ _ (hw.later x) (k4 b x hb hx) with ⟨j1, j2, _⟩ | ⟨j1, v', j2, j3⟩ | ⟨j1, j2, _⟩ | ⟨_, j2, _⟩
        rotate_left 3
        · exact absurd j2 hla
        · rw [wi] at j1
          exact absurd (i1 (by rw [wi]; exact j1)) (by rw [j2]; simp)
        · have e : v = v' := yieldsIf_unique hyi ((yieldsIf_put hsi hA).1 j2)
          rw [← Act.put_comm a (mk b) v hB, e]
          exact j3
        · rw [wi] at j1
          exact absurd (i1 (by rw [wi]; exact j1)) (by rw [j2]; simp)
      · have hai : AllocAs P oi a mi obi := (allocAs_put hsi hA).1 i3
        have hwn : Region.wanted oi (yielded ops a.tmps) = true := by rw [wi] at i1; exact i1
        refine .inr (.inr (.inl ⟨hwn, i2, mi, obi, hai, fun b x hb hx o ho => ?_⟩))
        obtain rfl : ok = o := Option.some.inj (hok.symm.trans ho)
        refine .inr (.inr (.inl ⟨by rw [wk]; exact k1, k2, mk, ob, (allocAs_put hsk hC).2 k3, fun b' x' hb' hx' => ?_⟩))
        rcases ih _ _ (hw.later (x.step x')) (k4 b' (x.step x') hb' hx') with ⟨_, j2, _⟩ | ⟨j1, _⟩ | ⟨j1, j2, mk', ob', j3, j4⟩ | ⟨_, j2, _⟩
        rotate_left 3
        · exact absurd j2 hla
        · rw [i2] at j2; cases j2
        · exact absurd (j1 (by rw [wi]; exact hwn)) (by rw [i2]; simp)
        · obtain ⟨e1, e2⟩ := allocAs_unique hai ((allocAs_put hsi hA).1 j3)
          rw [← Act.put_comm a (mk b') (mi b) hB, e1 b]
          refine j4 b (Later.self _) hb ?_
          have hlt : b < x.w.heap.size := (Array.getElem?_eq_some_iff.1 hx).1
          rw [← e2, ← hx]
          exact x'.le.block b hlt
    · -- k is the last
      exact absurd (k3 i (by simp)) hla

/-- k comes before i by the region's edges (c: the closure of the edges, as bits), or they have nothing to do with one another. -/
def sepB (ops : Array Oper) (c : Array Nat) (cls : Nat → Cls) (k i : Nat) : Bool :=
  (c.getD i 0).testBit k || (match ops[k]?, ops[i]? with
    | some ok, some oi => ok.apart ops oi && (cls k == .val || cls i != .loud) && cls i != .last
    | _, _ => false)
def pairsB (r : Nat → Nat → Bool) : List Nat → Bool
  | [] => true
  | k :: l => l.all (r k) && !l.contains k && pairsB r l
theorem pairsB_spec {r : Nat → Nat → Bool} : ∀ {l : List Nat}, pairsB r l = true → l.Pairwise (fun k i => r k i = true ∧ k ≠ i)
  | [], _ => .nil
  | k :: l, h => by
    simp only [pairsB, Bool.and_eq_true, List.all_eq_true, Bool.not_eq_true', List.contains_eq_mem, decide_eq_false_iff_not] at h
    exact .cons (fun i hi => ⟨h.1.1 i hi, fun e => h.1.2 (e ▸ hi)⟩) (pairsB_spec h.2)
def edgesB (ops : Array Oper) : Bool := (List.range ops.size).all fun i => match ops[i]? with
  | some o => o.after.all fun e => !Region.binds .any e || decide (e.on < i)
  | none => true
def certB (ops : Array Oper) (c : Array Nat) : Bool := (List.range ops.size).all fun i => match ops[i]? with
  | some o => (List.range ops.size).all fun k => !(c.getD i 0).testBit k || o.after.toList.any fun e => Region.binds .any e && (e.on == k || (c.getD e.on 0).testBit k)
  | none => true
def mixB (ops : Array Oper) (order : List Nat) (cls : Nat → Cls) : Bool :=
  Region.noSelect ops && edgesB ops && certB ops (Region.before ops) && pairsB (sepB ops (Region.before ops) cls) order && (List.range ops.size).all order.contains && order.all (fun i => decide (i < ops.size))

theorem edgesB_spec (h : edgesB ops = true) {i : Nat} {o : Oper} (ho : ops[i]? = some o) : ∀ e ∈ o.after, Region.binds .any e = true → e.on < i := by
  simp only [edgesB, List.all_eq_true, List.mem_range] at h
  have h1 := h i (Array.getElem?_eq_some_iff.1 ho).1
  simp only [ho, Array.all_eq_true_iff_forall_mem, Bool.or_eq_true, Bool.not_eq_true', decide_eq_true_eq] at h1
  intro e he hb
  rcases h1 e he with h2 | h2
  · rw [hb] at h2; cases h2
  · exact h2

/-- What comes before an operation that may come up has come up. -/
theorem cert_listed {c : Array Nat} {listed : Array Bool} (hE : edgesB ops = true) (hC : certB ops c = true)
    (hdown : ∀ j o, ops[j]? = some o → listed.getD j true = true → ∀ e ∈ o.after, Region.binds .any e = true → listed.getD e.on true = true) :
    ∀ (n i : Nat) (o : Oper), i < n → ops[i]? = some o → (∀ e ∈ o.after, Region.binds .any e = true → listed.getD e.on true = true) →
      ∀ k, k < ops.size → (c.getD i 0).testBit k = true → listed.getD k true = true
  | 0, _, _, h, _, _ => absurd h (Nat.not_lt_zero _)
  | n + 1, i, o, hi, ho, hall => by
    intro k hk hbit
    have hC' := hC
    simp only [certB, List.all_eq_true, List.mem_range] at hC'
    have h1 := hC' i (Array.getElem?_eq_some_iff.1 ho).1
    simp only [ho, List.all_eq_true, List.mem_range] at h1
    have h2 := h1 k hk
    rw [hbit] at h2
    simp only [Bool.not_true, Bool.false_or, List.any_eq_true, Array.mem_toList_iff, Bool.and_eq_true, Bool.or_eq_true, beq_iff_eq] at h2
    obtain ⟨e, he, hb, hon⟩ := h2
    rcases hon with rfl | hon
    · exact hall e he hb
    · have hlt := edgesB_spec hE ho e he hb
      have hlt2 : e.on < ops.size := Nat.lt_trans hlt (Array.getElem?_eq_some_iff.1 ho).1
      obtain ⟨oe, hoe⟩ : ∃ oe, ops[e.on]? = some oe := ⟨ops[e.on], by simp [hlt2]⟩
      exact cert_listed hE hC hdown n e.on oe (by omega) hoe (hdown e.on oe hoe (hall e he hb)) k hk hon

theorem split_mem {i : Nat} : ∀ {l : List Nat}, i ∈ l → ∃ l1 l2, l = l1 ++ i :: l2
  | k :: l, h => by
    rcases List.mem_cons.1 h with rfl | h
    · exact ⟨[], l, rfl⟩
    · obtain ⟨l1, l2, rfl⟩ := split_mem h
      exact ⟨k :: l1, l2, rfl⟩

theorem any_of_good {Q' : Exit → Act → World → Prop} (hs : Region.noSelect ops = true) (hE : edgesB ops = true) (hC : certB ops (Region.before ops) = true) :
    ∀ (n : Nat) (rem : List Nat) (listed : Array Bool) (a : Act) (w : World), rem.length = n → ((∃ i ∈ rem, cls i ≠ .last) → C0 W0 w) → listed.size = ops.size →
      rem.Pairwise (fun k i => sepB ops (Region.before ops) cls k i = true ∧ k ≠ i) → (∀ i, i ∈ rem ↔ i < ops.size ∧ listed.getD i true = false) →
      (∀ j o, ops[j]? = some o → listed.getD j true = true → ∀ e ∈ o.after, Region.binds .any e = true → listed.getD e.on true = true) →
      Good P ops W0 cls (fun a w => Q' .normal a w) rem a w → wpAny P .any ops Q' n listed a w
  | 0, rem, listed, a, w, hn, _, _, _, hmem, _, hg => by
    obtain rfl : rem = [] := List.eq_nil_of_length_eq_zero hn
    refine ⟨?_, hg (Later.self w)⟩
    rw [List.eq_nil_iff_forall_not_mem]
    intro i hi
    obtain ⟨h0, o, ho, _⟩ := mem_ready.1 hi
    exact absurd ((hmem i).2 ⟨(Array.getElem?_eq_some_iff.1 ho).1, h0⟩) (by simp)
  | n + 1, rem, listed, a, w, hn, hw, hsz, hpw, hmem, hdown, hg => by
    refine ⟨fun hr => ?_, fun i hi => ?_⟩
    · exfalso
      -- the least of what is left may come up
      have key : ∀ m i, i < m → i ∈ rem → False := by
        intro m
        induction m with
        | zero => intro i h; exact absurd h (Nat.not_lt_zero _)
        | succ m ih =>
          intro i him hir
          obtain ⟨hi1, hi2⟩ := (hmem i).1 hir
          have hready : i ∈ Region.ready .any ops listed := by
            refine mem_ready.2 ⟨hi2, ops[i], by simp [hi1], fun e he hb => ?_⟩
            have hlt := edgesB_spec hE (i := i) (o := ops[i]) (by simp [hi1]) e he hb
            have hlt2 : e.on < listed.size := by rw [hsz]; omega
            cases hl : listed.getD e.on true
            · exact (ih e.on (by omega) ((hmem e.on).2 ⟨by omega, hl⟩)).elim
            · simpa [hlt2] using hl
          rw [hr] at hready
          cases hready
      match rem, hn with
      | i :: rest, _ => exact key (i + 1) i (by omega) (by simp)
    · obtain ⟨h0, oi, hoi, hdep⟩ := mem_ready.1 hi
      have hi1 : i < ops.size := (Array.getElem?_eq_some_iff.1 hoi).1
      have hdep' : ∀ e ∈ oi.after, Region.binds .any e = true → listed.getD e.on true = true := fun e he hb => by
        have hh := hdep e he hb
        have hlt := edgesB_spec hE hoi e he hb
        have hlt2 : e.on < listed.size := by rw [hsz]; omega
        simpa [hlt2] using hh
      obtain ⟨l1, l2, rfl⟩ := split_mem ((hmem i).2 ⟨hi1, h0⟩)
      have hap : ∀ k ∈ l1, ∃ ok, ops[k]? = some ok ∧ ok.apart ops oi = true ∧ (cls k ≠ .val → cls i ≠ .loud) ∧ cls i ≠ .last := by
        intro k hk
        obtain ⟨hk1, hk2⟩ := (hmem k).1 (by simp [hk])
        have hsep := ((List.pairwise_append.1 hpw).2.2 k hk i (by simp)).1
        refine ⟨ops[k], by simp [hk1], ?_⟩
        rw [sepB, Bool.or_eq_true] at hsep
        rcases hsep with hsep | hsep
        · have := cert_listed hE hC hdown (i + 1) i oi (by omega) hoi hdep' k hk1 hsep
          rw [hk2] at this
          cases this
        · simp only [hoi, hk1, getElem?_pos, Bool.and_eq_true, Bool.or_eq_true, beq_iff_eq, bne_iff_ne] at hsep
          exact ⟨hsep.1.1, fun hv => hsep.1.2.resolve_left hv, hsep.2⟩
      have hp := pull hoi (Region.noSelect_spec hs) l1 l2 a w (fun hne => by
        obtain ⟨k, hk⟩ := List.exists_mem_of_ne_nil _ hne
        obtain ⟨_, _, _, _, h4⟩ := hap k hk
        exact hw ⟨i, by simp, h4⟩) hap hg
      have hpw' : (l1 ++ l2).Pairwise (fun k i => sepB ops (Region.before ops) cls k i = true ∧ k ≠ i) :=
        hpw.sublist (List.Sublist.append_left (List.sublist_cons_self i l2) l1)
      have hnot : i ∉ l1 ++ l2 := by
        intro hmi
        rcases List.mem_append.1 hmi with hm | hm
        · exact ((List.pairwise_append.1 hpw).2.2 i hm i (by simp)).2 rfl
        · exact ((List.pairwise_cons.1 (List.pairwise_append.1 hpw).2.1).1 i hm).2 rfl
      have hlen : (l1 ++ l2).length = n := by simp at hn ⊢; omega
      have hmem' : ∀ j, j ∈ l1 ++ l2 ↔ j < ops.size ∧ (listed.setIfInBounds i true).getD j true = false := by
        intro j
        by_cases hji : j = i
        · subst hji
          refine ⟨fun h => absurd h hnot, fun h => ?_⟩
          have hlt2 : j < listed.size := by rw [hsz]; exact hi1
          simp [hlt2] at h
        · have e : (listed.setIfInBounds i true).getD j true = listed.getD j true := getD_set_ne true (Ne.symm hji)
          rw [e, ← hmem j]
          simp [hji]
      have hdown' : ∀ j o, ops[j]? = some o → (listed.setIfInBounds i true).getD j true = true → ∀ e ∈ o.after, Region.binds .any e = true → (listed.setIfInBounds i true).getD e.on true = true := by
        intro j o ho hl e he hb
        have up : listed.getD e.on true = true → (listed.setIfInBounds i true).getD e.on true = true := fun h => by
          by_cases hei : i = e.on
          · subst hei
            have hlt2 : e.on < listed.size := by rw [hsz]; exact hi1
            simp [hlt2]
          · rw [getD_set_ne true hei]; exact h
        by_cases hji : i = j
        · subst hji
          obtain rfl : oi = o := Option.some.inj (hoi.symm.trans ho)
          exact up (hdep' e he hb)
        · rw [getD_set_ne true hji] at hl
          exact up (hdown j o ho hl e he hb)
      have next := fun (a' : Act) (w' : World) (hw' : (∃ j ∈ l1 ++ l2, cls j ≠ .last) → C0 W0 w') (hg' : Good P ops W0 cls (fun a w => Q' .normal a w) (l1 ++ l2) a' w') =>
        any_of_good (Q' := Q') hs hE hC n (l1 ++ l2) (listed.setIfInBounds i true) a' w' hlen hw' (by simpa using hsz) hpw' hmem' hdown' hg'
      unfold wpOp
      simp only [hoi]
      rcases hp with ⟨h1, h2, h3⟩ | ⟨h1, v, h2, h3⟩ | ⟨h1, h2, mk, ob, h3, h4⟩ | ⟨h1, h2, h3, h4⟩
      · have hw := hw ⟨i, by simp, by rw [h2]; simp⟩
        rw [if_pos h1]
        refine .inl ?_
        have hx := Oper.wp_mono (K' := wpAny P .any ops Q' n (listed.setIfInBounds i true)) (fun a' w' h => next a' w' (fun _ => by obtain ⟨⟨y, hy⟩, _⟩ := h; rw [hy]; exact (hw.later (Later.self w)).later y) h.2) (h3 (Later.self w))
        exact wp_of_F3 hx
      · rcases h2 with ⟨hwn, hy⟩ | ⟨hwn, rfl⟩
        · have hw := hw ⟨i, by simp, by rw [h1 hwn]; simp⟩
          rw [if_pos hwn]
          refine .inl ?_
          simp only [Oper.wp, hy w hw, Oper.upon]
          exact next _ _ (fun _ => hw) h3
        · rw [if_neg (by rw [hwn]; simp)]
          exact next _ _ (fun ⟨j, hj, hc⟩ => hw ⟨j, by rcases List.mem_append.1 hj with h | h <;> simp [h], hc⟩) h3
      · have hw := hw ⟨i, by simp, by rw [h2]; simp⟩
        rw [if_pos h1]
        refine .inl ?_
        simp only [Oper.wp, h3 w, Oper.upon]
        exact next _ _ (fun _ => hw.later (Later.new w ob)) (h4 w.heap.size (Later.new w ob) hw.size (heap_alloc_new w ob))
      · rw [if_pos h1]
        refine .inl ?_
        have hx := Oper.wp_mono (K' := wpAny P .any ops Q' n (listed.setIfInBounds i true)) (fun a' w' h => next a' w' (fun ⟨j, hj, hc⟩ => absurd (h3 j hj) hc) h) (h4 (Later.self w))
        exact wp_of_F3 hx

/-- **A region that draws its order, walked once.** -/
theorem region_mix {id : Nat} {Q' : Exit → Act → World → Prop} {a : Act} {w : World} {l : List Oper} (order : List Nat) (cls : Nat → Cls) (hm : P.follows .mixedOrders = true)
    (hB : mixB l.toArray order cls = true) (h : Good P l.toArray w cls (fun a w => Q' .normal a w) order a w) : (Code.region id l.toArray true).wp P Q' a w := by
  simp only [mixB, Bool.and_eq_true] at hB
  obtain ⟨⟨⟨⟨⟨hs, hE⟩, hC⟩, hp⟩, hr⟩, ho⟩ := hB
  refine wp_region_any hm ?_
  have hlen : order.length = l.toArray.size := by
    have hnd : order.Nodup := (pairsB_spec hp).imp (fun h => h.2)
    have h1 : ∀ i, i ∈ order ↔ i ∈ List.range l.toArray.size := fun i => by
      rw [List.mem_range]
      rw [List.all_eq_true] at ho hr
      exact ⟨fun h => of_decide_eq_true (ho i h), fun h => by have := hr i (List.mem_range.2 h); simpa using this⟩
    have hperm := (List.perm_ext_iff_of_nodup hnd List.nodup_range).2 h1
    rw [hperm.length_eq, List.length_range]
  have := any_of_good (P := P) (W0 := w) (cls := cls) (Q' := Q') hs hE hC order.length order (Array.replicate l.toArray.size false) a { w with drawn := w.drawn + 1 } rfl (fun _ => ⟨Later.draw w, rfl⟩) (by simp) (pairsB_spec hp)
    (fun i => by
      rw [List.all_eq_true] at ho hr
      constructor
      · intro h
        have hlt := of_decide_eq_true (ho i h)
        exact ⟨hlt, by simp at hlt; simp [hlt]⟩
      · intro h
        have := hr i (List.mem_range.2 h.1)
        simpa using this)
    (fun j o hj hl => by
      have hlt : j < l.toArray.size := (Array.getElem?_eq_some_iff.1 hj).1
      simp at hlt
      simp [hlt] at hl)
    (h.later (Later.draw w))
  rw [hlen] at this
  exact this
end
end Mix
end Go.Proofs.Ytdhdpbnlhnodjaa

/-
  The steps of a walk through a region that draws its order (over the law of the text before).
-/
namespace Go.Proofs.Ytdhdpbnlhnodjaa
open Go.RowKit
namespace Mix
section
variable {P : Program} {ops : Array Oper} {W0 : World} {cls : Nat → Cls} {Q : Act → World → Prop} {i : Nat} {rest : List Nat} {a : Act} {w : World} {o : Oper}

/-- Operations that can yield nothing but a value. -/
def valOp : Op → Bool
  | .move _ | .assign _ | .pick .. | .load .. | .binOp .. | .unOp .. | .fieldAddr .. | .field .. | .indexAddr .. | .index .. | .slice .. | .build .. | .extract .. | .lookup .. | .makeFunc .. | .convert .. | .makeInterface .. => true
  | .nilCheck _ => true
  | .call { callee := .builtin .len, .. } => true
  | _ => false

theorem run_v {s : Sem Value} {n : Next} {w w' : World} (h : (s >>= fun x => (pure (Next.value x) : Sem Next)).run P w = .ok n w') : ∃ u, n = .value u := by
  rw [Sem.run_bind] at h
  cases hs : s.run P w with
  | ok u w1 =>
    rw [hs] at h
    simp only [Result.andThen_ok, Sem.run_pure, Result.ok.injEq] at h
    exact ⟨u, h.1.symm⟩
  | halt x w1 => rw [hs] at h; cases h

theorem valOp_run {o : Oper} (hv : valOp o.op = true) {ρ : Operand → Value} {n : Next} {w w' : World} (h : (execOp ρ o).run P w = .ok n w') : ∃ u, n = .value u := by
  obtain ⟨dst, op, ty, pos, after, guard⟩ := o
  cases op <;> simp only [valOp] at hv <;> simp only [execOp] at h
  case move x => simp only [Sem.run_pure, Result.ok.injEq] at h; exact ⟨_, h.1.symm⟩
  case assign x => simp only [Sem.run_pure, Result.ok.injEq] at h; exact ⟨_, h.1.symm⟩
  case pick c x y =>
    rw [Sem.run_bind] at h
    cases hs : (asBool (ρ c)).run P w with
    | ok u w1 =>
      rw [hs] at h
      simp only [Result.andThen_ok, Sem.run_pure, Result.ok.injEq] at h
      exact ⟨_, h.1.symm⟩
    | halt x w1 => rw [hs] at h; cases h
  case nilCheck x =>
    generalize ρ x = v at h
    split at h
    · cases h
    · cases h
    · cases h
    · split at h
      · cases h
      · rename_i t w0 _
        rw [Sem.run_bind] at h
        cases hs : (program : Sem Program).run P w with
        | ok q w1 =>
          rw [hs, Result.andThen_ok, Sem.run_bind] at h
          generalize (nilAhead _ t w0 _).run P w1 = r at h
          cases r with
          | ok q2 w2 =>
            simp only [Result.andThen_ok] at h
            split at h
            · exact absurd h (by simp [unsupported, Sem.run, Result.andThen])
            · simp only [Sem.run_pure, Result.ok.injEq] at h; exact ⟨_, h.1.symm⟩
          | halt x w2 => cases h
        | halt x w1 => rw [hs] at h; cases h
      · simp only [Sem.run_pure, Result.ok.injEq] at h; exact ⟨_, h.1.symm⟩
    · simp only [Sem.run_pure, Result.ok.injEq] at h; exact ⟨_, h.1.symm⟩
  case call c =>
    obtain ⟨callee, args, tys⟩ := c
    cases callee
    case builtin b =>
      cases b
      case len =>
        simp only [resolve, Sem.run_bind, Sem.run_pure, Result.andThen_ok, invoke, builtin] at h
        exact run_v (s := Builtin.len_ _ _ _) (by rw [Sem.run_bind]; exact h)
      all_goals cases hv
    all_goals cases hv
  all_goals first | exact run_v h | cases hv

/-- The same, of the operations themselves in the order of the text. -/
def GoodL (P : Program) (ops : Array Oper) (W0 : World) (cls : Nat → Cls) (Q : Act → World → Prop) : Nat → List Oper → Act → World → Prop
  | _, [], a, w => ∀ x : Later w, Q a x.w
  | i, o :: rest, a, w =>
      (Region.wanted o (yielded ops a.tmps) = true ∧ cls i = .loud ∧ ∀ x : Later w, o.wp P a x.w (fun a' w' => (∃ y : Later x.w, w' = y.w) ∧ GoodL P ops W0 cls Q (i + 1) rest a' w') F3) ∨
      ((Region.wanted o (yielded ops a.tmps) = true → cls i = .val) ∧ ∃ v, YieldsIf P ops (C0 W0) o v a ∧ GoodL P ops W0 cls Q (i + 1) rest (a.put o.dst v) w) ∨
      (Region.wanted o (yielded ops a.tmps) = true ∧ cls i = .new ∧ ∃ mk ob, AllocAs P o a mk ob ∧
        ∀ (b : Nat) (x : Later w), W0.heap.size ≤ b → x.w.heap[b]? = some ob → GoodL P ops W0 cls Q (i + 1) rest (a.put o.dst (mk b)) x.w) ∨
      (Region.wanted o (yielded ops a.tmps) = true ∧ cls i = .last ∧ (∀ j, j < rest.length → cls (i + 1 + j) = .last) ∧ ∀ x : Later w, o.wp P a x.w (fun a' w' => GoodL P ops W0 cls Q (i + 1) rest a' w') F3)

theorem good_of_goodL : ∀ (l : List Oper) (k : Nat) (a : Act) (w : World), (∀ j, l[j]? = ops[k + j]?) → GoodL P ops W0 cls Q k l a w → Good P ops W0 cls Q (List.range' k l.length) a w
  | [], _, _, _, _, h => h
  | o :: l, k, a, w, hl, h => by
    have h0 : ops[k]? = some o := by simpa using (hl 0).symm
    have hl' : ∀ j, l[j]? = ops[k + 1 + j]? := fun j => by have := hl (j + 1); simpa [Nat.add_assoc, Nat.add_comm 1 j] using this
    have ih := fun a w => good_of_goodL l (k + 1) a w hl'
    rw [List.length_cons, List.range'_succ]
    intro o' ho'
    obtain rfl : o = o' := Option.some.inj (h0.symm.trans ho')
    rcases h with ⟨h1, h2, h3⟩ | ⟨h1, v, h2, h3⟩ | ⟨h1, h2, mk, ob, h3, h4⟩ | ⟨h1, h2, hl2, h3⟩
    · exact .inl ⟨h1, h2, fun x => Oper.wp_mono (fun a' w' hh => ⟨hh.1, ih a' w' hh.2⟩) (h3 x)⟩
    · exact .inr (.inl ⟨h1, v, h2, ih _ _ h3⟩)
    · exact .inr (.inr (.inl ⟨h1, h2, mk, ob, h3, fun b x hb hx => ih _ _ (h4 b x hb hx)⟩))
    · exact .inr (.inr (.inr ⟨h1, h2, fun j hj => by
        obtain ⟨q, hq, rfl⟩ := List.mem_range'.1 hj
        simpa using hl2 q hq, fun x => Oper.wp_mono (fun a' w' hh => ih a' w' hh) (h3 x)⟩))

/-- **A region that draws its order, walked once, in the order of its text.** -/
theorem region_mixL {id : Nat} {Q' : Exit → Act → World → Prop} {a : Act} {w : World} {l : List Oper} (cls : Nat → Cls) (hm : P.follows .mixedOrders = true)
    (hB : mixB l.toArray (List.range' 0 l.length) cls = true) (h : GoodL P l.toArray w cls (fun a w => Q' .normal a w) 0 l a w) : (Code.region id l.toArray true).wp P Q' a w :=
  region_mix (List.range' 0 l.length) cls hm hB (good_of_goodL l 0 a w (fun j => by simp) h)

variable {rest : List Oper}
theorem skip (hw : Region.wanted o (yielded ops a.tmps) = false) (h : GoodL P ops W0 cls Q (i + 1) rest (a.put o.dst undef) w) : GoodL P ops W0 cls Q i (o :: rest) a w :=
  .inr (.inl ⟨fun h1 => (by rw [hw] at h1; cases h1), undef, .inr ⟨hw, rfl⟩, h⟩)

theorem val (hc : cls i = .val) (hv : valOp o.op = true) (hw : Region.wanted o (yielded ops a.tmps) = true)
    (h : ∀ K : Act → Prop, (∀ a', GoodL P ops W0 cls Q (i + 1) rest a' w → K a') → o.quiet P a (fun w' => ∃ x : Later W0, w' = x.w) K) : GoodL P ops W0 cls Q i (o :: rest) a w := by
  obtain ⟨v, h1, h2⟩ := h (fun a' => GoodL P ops W0 cls Q (i + 1) rest a' w) (fun _ h => h)
  refine .inr (.inl ⟨fun _ => hc, v, .inl ⟨hw, fun w' hw' => ?_⟩, h2⟩)
  have h3 := h1 w' hw'
  unfold Oper.quietAt at h3
  cases hr : (execOp a.eval o).run P w' with
  | ok n w1 =>
    obtain ⟨u, rfl⟩ := valOp_run hv hr
    rw [hr] at h3
    simp only [Oper.quietUpon] at h3
    rw [h3.1, h3.2]
  | halt x w1 => rw [hr] at h3; exact h3.elim

theorem loud (hc : cls i = .loud) (hw : Region.wanted o (yielded ops a.tmps) = true)
    (h : ∀ (x : Later w) (K : Act → World → Prop), (∀ (a' : Act) (y : Later x.w), GoodL P ops W0 cls Q (i + 1) rest a' y.w → K a' y.w) → o.wp P a x.w K F3) : GoodL P ops W0 cls Q i (o :: rest) a w :=
  .inl ⟨hw, hc, fun x => h x _ (fun _ y hg => ⟨⟨y, rfl⟩, hg⟩)⟩

theorem new (hc : cls i = .new) (hw : Region.wanted o (yielded ops a.tmps) = true) (mk : Nat → Value) (ob : Obj) (hal : AllocAs P o a mk ob)
    (h : ∀ (b : Nat) (x : Later w), W0.heap.size ≤ b → x.w.heap[b]? = some ob → GoodL P ops W0 cls Q (i + 1) rest (a.put o.dst (mk b)) x.w) : GoodL P ops W0 cls Q i (o :: rest) a w :=
  .inr (.inr (.inl ⟨hw, hc, mk, ob, hal, h⟩))

theorem last (hc : cls i = .last) (hw : Region.wanted o (yielded ops a.tmps) = true)
    (h : ∀ (x : Later w) (K : Act → World → Prop), (∀ (a' : Act) (w' : World), GoodL P ops W0 cls Q (i + 1) [] a' w' → K a' w') → o.wp P a x.w K F3) : GoodL P ops W0 cls Q i [o] a w :=
  .inr (.inr (.inr ⟨hw, hc, fun _ hj => absurd hj (Nat.not_lt_zero _), fun x => h x _ (fun _ _ hg => hg)⟩))
/-- an operation that may change what was there: behind it come such alone -/
theorem lastR (hc : cls i = .last) (hw : Region.wanted o (yielded ops a.tmps) = true) (hr : ∀ j, j < rest.length → cls (i + 1 + j) = .last)
    (h : ∀ (x : Later w) (K : Act → World → Prop), (∀ (a' : Act) (w' : World), GoodL P ops W0 cls Q (i + 1) rest a' w' → K a' w') → o.wp P a x.w K F3) : GoodL P ops W0 cls Q i (o :: rest) a w :=
  .inr (.inr (.inr ⟨hw, hc, hr, fun x => h x _ (fun _ _ hg => hg)⟩))

theorem put_undef {a : Act} {d : Tmp} (h : a.tmps.getD d undef = undef) : a.put (some d) undef = a := by
  obtain ⟨ts, ds⟩ := a
  simp only [Act.put, Act.mk.injEq, and_true]
  apply Array.ext_getElem?
  intro j
  by_cases hj : d = j
  · subst hj
    rw [Array.getElem?_setIfInBounds]
    by_cases hlt : d < ts.size
    · simp only [Array.getD_eq_getD_getElem?, hlt, getElem?_pos, Option.getD_some] at h
      simp [hlt, h]
    · simp [hlt]
  · rw [Array.getElem?_setIfInBounds_ne hj]
/-- .. is passed over, and its slot holds nothing. -/
theorem skipU {d : Tmp} (hw : Region.wanted o (yielded ops a.tmps) = false) (hd : o.dst = some d) (hu : a.tmps.getD d undef = undef) (h : GoodL P ops W0 cls Q (i + 1) rest a w) : GoodL P ops W0 cls Q i (o :: rest) a w :=
  skip hw (by rw [hd, put_undef hu]; exact h)
/-- There is one more. -/
theorem atCons (h : GoodL P ops W0 cls Q i (o :: rest) a w) : GoodL P ops W0 cls Q i (o :: rest) a w := h
/-- the kinds of operations, by three lists of numbers -/
def kinds (news louds lasts : List Nat) (i : Nat) : Cls := if louds.contains i then .loud else if news.contains i then .new else if lasts.contains i then .last else .val
theorem done (h : ∀ x : Later w, Q a x.w) : GoodL P ops W0 cls Q i [] a w := h
end
end Mix
end Go.Proofs.Ytdhdpbnlhnodjaa

/-  A region that draws its order, inside a fence and inside a round, whose operations call nothing: by the walk outside. Plain law over the model. -/
namespace Go.Proofs.Ytdhdpbnlhnodjaa
namespace Mix
variable {P : Program} {ops : Array Oper} {F : Fence} {n : Nat}
def inOp : Op → Bool
  | .move _ | .assign _ | .pick .. | .load .. | .binOp .. | .unOp .. | .fieldAddr .. | .field .. | .indexAddr .. | .index .. | .slice .. | .build .. | .extract .. | .lookup .. | .makeFunc .. | .convert .. | .makeInterface .. | .nilCheck _ | .store .. => true
  | _ => false
theorem inOp_about {o : Oper} (h : inOp o.op = true) (w : World) (ρ : Operand → Value) : o.about P w ρ = none := by
  obtain ⟨dst, op, ty, pos, after, guard⟩ := o
  cases op <;> first | rfl | cases h
theorem run_u {s : Sem Unit} {m : Next} {w w' : World} (h : (s >>= fun _ => (pure Next.skip : Sem Next)).run P w = .ok m w') : m = .skip := by
  rw [Sem.run_bind] at h
  cases hs : s.run P w with
  | ok u w1 =>
    rw [hs] at h
    simp only [Result.andThen_ok, Sem.run_pure, Result.ok.injEq] at h
    exact h.1.symm
  | halt x w1 => rw [hs] at h; cases h
theorem inOp_run {o : Oper} (hv : inOp o.op = true) {ρ : Operand → Value} {m : Next} {w w' : World} (h : (execOp ρ o).run P w = .ok m w') : (∃ u, m = .value u) ∨ m = .skip := by
  by_cases hs : valOp o.op = true
  · exact .inl (valOp_run hs h)
  · obtain ⟨dst, op, ty, pos, after, guard⟩ := o
    cases op <;> first | (exact absurd rfl hs) | (cases hv; done) | skip
    case store t a x => exact .inr (run_u (s := Instr.storeAt t (ρ a) (ρ x)) (by simpa only [execOp] using h))
def QN (Q : Act → World → Prop) : Exit → Act → World → Prop
  | .normal, a, w => Q a w
  | _, _, _ => False
theorem wpIn_of_wp {o : Oper} (hv : inOp o.op = true) {a : Act} {w : World} {K K' : Act → World → Prop} {Q : Act → World → Prop} {Q' : Exit → Act → World → Prop} (hk : ∀ a w, K a w → K' a w) (h : o.wp P a w K (QN Q)) : o.wpIn F n P a w K' Q' := by
  refine ⟨fun f hf => (by rw [inOp_about hv] at hf; cases hf), ?_⟩
  rw [Oper.semAt_eq _ _ _ (fun c e => by rw [e] at hv; cases hv)]
  unfold Oper.wp at h
  cases hr : (execOp a.eval o).run P w with
  | ok m w' =>
    rw [hr] at h
    rcases inOp_run hv hr with ⟨u, rfl⟩ | rfl
    · exact hk _ _ h
    · exact hk _ _ h
  | halt x w' =>
    rw [hr] at h
    cases x <;> first | exact h.elim | (simp only [Oper.upon] at h)
    all_goals exact h.elim
theorem anyIn_of_any {md : Region.Mode} {Q : Act → World → Prop} {Q' : Exit → Act → World → Prop} (hops : ∀ (i : Nat) (o : Oper), ops[i]? = some o → inOp o.op = true) (hQ : ∀ a w, Q a w → Q' .normal a w) :
    ∀ (fuel : Nat) (listed : Array Bool) (a : Act) (w : World), wpAny P md ops (QN Q) fuel listed a w → wpAnyIn F n P md ops Q' fuel listed a w
  | 0, _, _, _, h => ⟨h.1, hQ _ _ h.2⟩
  | fuel + 1, listed, a, w, h => by
    refine ⟨fun h0 => hQ _ _ (h.1 h0), fun i hi => ?_⟩
    have h1 := h.2 i hi
    have ih : ∀ a w, wpAny P md ops (QN Q) fuel (listed.setIfInBounds i true) a w → wpAnyIn F n P md ops Q' fuel (listed.setIfInBounds i true) a w := fun a w => anyIn_of_any hops hQ fuel _ a w
    unfold wpOp at h1
    unfold wpOpIn
    cases ho : ops[i]? with
    | none => rw [ho] at h1; exact ih _ _ h1
    | some o =>
      rw [ho] at h1
      have hv := hops i o ho
      dsimp only at h1 ⊢
      by_cases hw : Region.wanted o (yielded ops a.tmps) = true
      · rw [if_pos hw] at h1 ⊢
        rcases h1 with h1 | ⟨_, _, _, h2⟩
        · exact wpIn_of_wp hv ih h1
        · exact h2.elim
      · rw [if_neg hw] at h1 ⊢
        exact ⟨fun f hf => (by rw [inOp_about hv] at hf; cases hf), ih _ _ h1⟩
/-- **A region that draws its order, inside a fence (and a round): walked once, in the order of its text.** -/
theorem region_mixL_in {id : Nat} {Q' : Exit → Act → World → Prop} {a : Act} {w : World} {l : List Oper} (cls : Nat → Cls) (hm : P.follows .mixedOrders = true) (hin : l.all (fun o => inOp o.op) = true)
    (hB : mixB l.toArray (List.range' 0 l.length) cls = true) (h : GoodL P l.toArray w cls (fun a w => Q' .normal a w) 0 l a w) : (Code.region id l.toArray true).wpIn F n P Q' a w := by
  have hh := good_of_goodL l 0 a w (fun j => by simp) h
  simp only [mixB, Bool.and_eq_true] at hB
  obtain ⟨⟨⟨⟨⟨hs, hE⟩, hC⟩, hp⟩, hr⟩, ho⟩ := hB
  refine wpIn_region_any hm (anyIn_of_any (Q := fun a w => Q' .normal a w) (fun i o hi => ?_) (fun _ _ h => h) _ _ _ _ ?_)
  · have : o ∈ l := by
      have := Array.mem_of_getElem? hi
      simpa using this
    exact (List.all_eq_true.1 hin) o this
  have hlen : (List.range' 0 l.length).length = l.toArray.size := by simp
  have := any_of_good (P := P) (W0 := w) (cls := cls) (Q' := QN fun a w => Q' .normal a w) hs hE hC (List.range' 0 l.length).length (List.range' 0 l.length) (Array.replicate l.toArray.size false) a { w with drawn := w.drawn + 1 } rfl (fun _ => ⟨Later.draw w, rfl⟩) (by simp) (pairsB_spec hp)
    (fun i => by
      rw [List.all_eq_true] at ho hr
      constructor
      · intro h
        have hlt := of_decide_eq_true (ho i h)
        exact ⟨hlt, by simp at hlt; simp [hlt]⟩
      · intro h
        have := hr i (List.mem_range.2 h.1)
        simpa using this)
    (fun j o hj hl => by
      have hlt : j < l.toArray.size := (Array.getElem?_eq_some_iff.1 hj).1
      simp at hlt
      simp [hlt] at hl)
    (hh.later (Later.draw w))
  rw [hlen] at this
  exact this
end Mix
end Go.Proofs.Ytdhdpbnlhnodjaa

/- A region that draws its order, from its middle on, in an order of one's own. -/
namespace Go.Proofs.Ytdhdpbnlhnodjaa
open Go.RowKit
namespace Mix
section
variable {P : Program} {ops : Array Oper} {W0 : World} {cls : Nat → Cls} {Q : Act → World → Prop} {i : Nat} {rest : List Nat} {a : Act} {w : World}

theorem gcons (o : Oper) (ho : ops[i]? = some o)
    (h : (Region.wanted o (yielded ops a.tmps) = true ∧ cls i = .loud ∧ ∀ x : Later w, o.wp P a x.w (fun a' w' => (∃ y : Later x.w, w' = y.w) ∧ Good P ops W0 cls Q rest a' w') F3) ∨
      ((Region.wanted o (yielded ops a.tmps) = true → cls i = .val) ∧ ∃ v, YieldsIf P ops (C0 W0) o v a ∧ Good P ops W0 cls Q rest (a.put o.dst v) w) ∨
      (Region.wanted o (yielded ops a.tmps) = true ∧ cls i = .new ∧ ∃ mk ob, AllocAs P o a mk ob ∧
        ∀ (b : Nat) (x : Later w), W0.heap.size ≤ b → x.w.heap[b]? = some ob → Good P ops W0 cls Q rest (a.put o.dst (mk b)) x.w) ∨
      (Region.wanted o (yielded ops a.tmps) = true ∧ cls i = .last ∧ (∀ j ∈ rest, cls j = .last) ∧ ∀ x : Later w, o.wp P a x.w (fun a' w' => Good P ops W0 cls Q rest a' w') F3)) : Good P ops W0 cls Q (i :: rest) a w := fun o' ho' => by
  cases Option.some.inj (ho.symm.trans ho')
  exact h
theorem gloud (o : Oper) (ho : ops[i]? = some o) (hc : cls i = .loud) (hw : Region.wanted o (yielded ops a.tmps) = true)
    (h : ∀ (x : Later w) (K : Act → World → Prop), (∀ (a' : Act) (y : Later x.w), Good P ops W0 cls Q rest a' y.w → K a' y.w) → o.wp P a x.w K F3) : Good P ops W0 cls Q (i :: rest) a w :=
  gcons o ho (.inl ⟨hw, hc, fun x => h x _ (fun _ y hg => ⟨⟨y, rfl⟩, hg⟩)⟩)
theorem gnew (o : Oper) (ho : ops[i]? = some o) (hc : cls i = .new) (hw : Region.wanted o (yielded ops a.tmps) = true) (mk : Nat → Value) (ob : Obj) (hal : AllocAs P o a mk ob)
    (h : ∀ (b : Nat) (x : Later w), W0.heap.size ≤ b → x.w.heap[b]? = some ob → Good P ops W0 cls Q rest (a.put o.dst (mk b)) x.w) : Good P ops W0 cls Q (i :: rest) a w :=
  gcons o ho (.inr (.inr (.inl ⟨hw, hc, mk, ob, hal, h⟩)))
theorem glast (o : Oper) (ho : ops[i]? = some o) (hc : cls i = .last) (hw : Region.wanted o (yielded ops a.tmps) = true) (hr : ∀ j ∈ rest, cls j = .last)
    (h : ∀ (x : Later w) (K : Act → World → Prop), (∀ (a' : Act) (w' : World), Good P ops W0 cls Q rest a' w' → K a' w') → o.wp P a x.w K F3) : Good P ops W0 cls Q (i :: rest) a w :=
  gcons o ho (.inr (.inr (.inr ⟨hw, hc, hr, fun x => h x _ (fun _ _ hg => hg)⟩)))
theorem gdone (h : ∀ x : Later w, Q a x.w) : Good P ops W0 cls Q [] a w := h

def restB (ops : Array Oper) (listed : Array Bool) (rem : List Nat) (cls : Nat → Cls) (n : Nat) : Bool :=
  Region.noSelect ops && edgesB ops && certB ops (Region.before ops) && pairsB (sepB ops (Region.before ops) cls) rem && (listed.size == ops.size) && (rem.length == n) &&
    (List.range ops.size).all (fun i => rem.contains i == !listed.getD i true) && rem.all (fun i => decide (i < ops.size)) &&
    (List.range ops.size).all (fun j => !listed.getD j true || match ops[j]? with
      | some o => o.after.all fun e => !Region.binds .any e || listed.getD e.on true
      | none => true)
theorem any_rest {Q' : Exit → Act → World → Prop} {listed : Array Bool} {rem : List Nat} {n : Nat} (hB : restB ops listed rem cls n = true) (hw : C0 W0 w) (h : Good P ops W0 cls (fun a w => Q' .normal a w) rem a w) : wpAny P .any ops Q' n listed a w := by
  simp only [restB, Bool.and_eq_true] at hB
  obtain ⟨⟨⟨⟨⟨⟨⟨⟨hs, hE⟩, hC⟩, hp⟩, hsz⟩, hn⟩, hm⟩, ho⟩, hd⟩ := hB
  refine any_of_good hs hE hC n rem listed a w (by simpa using hn) (fun _ => hw) (by simpa using hsz) (pairsB_spec hp) (fun i => ?_) (fun j o hj hl e he hb => ?_) h
  · rw [List.all_eq_true] at hm ho
    constructor
    · intro hi
      have hlt := of_decide_eq_true (ho i hi)
      have := hm i (List.mem_range.2 hlt)
      rw [List.contains_iff_mem.2 hi] at this
      exact ⟨hlt, by simpa using this⟩
    · rintro ⟨hlt, hl⟩
      have := hm i (List.mem_range.2 hlt)
      rw [hl] at this
      simpa using this
  · rw [List.all_eq_true] at hd
    have := hd j (List.mem_range.2 (Array.getElem?_eq_some_iff.1 hj).1)
    rw [hl, hj] at this
    simp only [Bool.not_true, Bool.false_or] at this
    have := Array.all_eq_true'.1 this e he
    rw [hb] at this
    simpa using this
end
end Mix
end Go.Proofs.Ytdhdpbnlhnodjaa

/-  Regions that draw their order, once more: new blocks are told apart. -/
namespace Go.Proofs.Ytdhdpbnlhnodjaa
open Go.RowKit
namespace MixU
open Mix
section
variable {P : Program} {ops : Array Oper}
def cons (b : Nat) (U : Nat → Prop) (n : Nat) : Prop := n = b ∨ U n
def none0 : Nat → Prop := fun _ => False
theorem cons_comm (b c : Nat) (U : Nat → Prop) : cons b (cons c U) = cons c (cons b U) := funext fun n => propext ⟨fun h => by
    rcases h with h | h | h
    · exact .inr (.inl h)
    · exact .inl h
    · exact .inr (.inr h), fun h => by
    rcases h with h | h | h
    · exact .inr (.inl h)
    · exact .inl h
    · exact .inr (.inr h)⟩
def Good (P : Program) (ops : Array Oper) (W0 : World) (cls : Nat → Cls) (Q : Act → World → Prop) : (Nat → Prop) → List Nat → Act → World → Prop
  | _, [], a, w => ∀ x : Later w, Q a x.w
  | U, i :: rest, a, w => ∀ o, ops[i]? = some o →
      (Region.wanted o (yielded ops a.tmps) = true ∧ cls i = .loud ∧ ∀ x : Later w, o.wp P a x.w (fun a' w' => (∃ y : Later x.w, w' = y.w) ∧ Good P ops W0 cls Q U rest a' w') F3) ∨
      ((Region.wanted o (yielded ops a.tmps) = true → cls i = .val) ∧ ∃ v, YieldsIf P ops (C0 W0) o v a ∧ Good P ops W0 cls Q U rest (a.put o.dst v) w) ∨
      (Region.wanted o (yielded ops a.tmps) = true ∧ cls i = .new ∧ ∃ mk ob, AllocAs P o a mk ob ∧
        ∀ (b : Nat) (x : Later w), W0.heap.size ≤ b → ¬ U b → x.w.heap[b]? = some ob → Good P ops W0 cls Q (cons b U) rest (a.put o.dst (mk b)) x.w) ∨
      (Region.wanted o (yielded ops a.tmps) = true ∧ cls i = .last ∧ (∀ j ∈ rest, cls j = .last) ∧ ∀ x : Later w, o.wp P a x.w (fun a' w' => Good P ops W0 cls Q U rest a' w') F3)

variable {W0 : World} {cls : Nat → Cls} {Q : Act → World → Prop}

theorem Good.later : ∀ {U : Nat → Prop} {l : List Nat} {a : Act} {w : World}, Good P ops W0 cls Q U l a w → ∀ x : Later w, Good P ops W0 cls Q U l a x.w
  | _, [], _, _, h, x => fun y => h (x.step y)
  | _, i :: rest, a, w, h, x => fun o ho => by
    rcases h o ho with ⟨h1, h2, h3⟩ | ⟨h1, v, h2, h3⟩ | ⟨h1, h2, mk, ob, h3, h4⟩ | ⟨h1, h2, h3, h4⟩
    · exact .inl ⟨h1, h2, fun y => h3 (x.step y)⟩
    · exact .inr (.inl ⟨h1, v, h2, h3.later x⟩)
    · exact .inr (.inr (.inl ⟨h1, h2, mk, ob, h3, fun b y hb hu hy => h4 b (x.step y) hb hu hy⟩))
    · exact .inr (.inr (.inr ⟨h1, h2, h3, fun y => h4 (x.step y)⟩))

/-- What is pulled ahead of the rest. -/
def Pulled (P : Program) (ops : Array Oper) (W0 : World) (cls : Nat → Cls) (Q : Act → World → Prop) (U : Nat → Prop) (i : Nat) (o : Oper) (l : List Nat) (a : Act) (w : World) : Prop :=
  (Region.wanted o (yielded ops a.tmps) = true ∧ cls i = .loud ∧ ∀ x : Later w, o.wp P a x.w (fun a' w' => (∃ y : Later x.w, w' = y.w) ∧ Good P ops W0 cls Q U l a' w') F3) ∨
  ((Region.wanted o (yielded ops a.tmps) = true → cls i = .val) ∧ ∃ v, YieldsIf P ops (C0 W0) o v a ∧ Good P ops W0 cls Q U l (a.put o.dst v) w) ∨
  (Region.wanted o (yielded ops a.tmps) = true ∧ cls i = .new ∧ ∃ mk ob, AllocAs P o a mk ob ∧
    ∀ (b : Nat) (x : Later w), W0.heap.size ≤ b → ¬ U b → x.w.heap[b]? = some ob → Good P ops W0 cls Q (cons b U) l (a.put o.dst (mk b)) x.w) ∨
  (Region.wanted o (yielded ops a.tmps) = true ∧ cls i = .last ∧ (∀ j ∈ l, cls j = .last) ∧ ∀ x : Later w, o.wp P a x.w (fun a' w' => Good P ops W0 cls Q U l a' w') F3)

theorem pull {i : Nat} {oi : Oper} (hoi : ops[i]? = some oi) (hsel : ∀ (j : Nat) (o : Oper) cs b, ops[j]? = some o → o.op ≠ .select cs b) :
    ∀ (U : Nat → Prop) (l1 l2 : List Nat) (a : Act) (w : World), (l1 ≠ [] → C0 W0 w ∧ ∀ n, U n → n < w.heap.size) → (∀ k ∈ l1, ∃ ok, ops[k]? = some ok ∧ ok.apart ops oi = true ∧ (cls k ≠ .val → cls i ≠ .loud) ∧ cls i ≠ .last) →
      Good P ops W0 cls Q U (l1 ++ i :: l2) a w → Pulled P ops W0 cls Q U i oi (l1 ++ l2) a w
  | _, [], l2, a, w, _, _, h => h oi hoi
  | U, k :: l1, l2, a, w, hw0, hap, h => by
    obtain ⟨hw, hu⟩ := hw0 (by simp)
    have hsi := fun cs b => hsel i oi cs b hoi
    obtain ⟨ok, hok, hapk, hcl, hla⟩ := hap k (by simp)
    have hsk := fun cs b => hsel k ok cs b hok
    obtain ⟨hA, hB, hC⟩ := Oper.apart_spec hapk
    -- hA: k's slot is not looked at by i; hB: other slots; hC: i's slot is not looked at by k
    have hB' : ∀ t, oi.dst = some t → ok.dst ≠ some t := fun t ht hk => hB t hk ht
    have ih := fun (U : Nat → Prop) (a : Act) (w : World) (hw : C0 W0 w) (hu : ∀ n, U n → n < w.heap.size) => pull hoi hsel U l1 l2 a w (fun _ => ⟨hw, hu⟩) (fun k' hk' => hap k' (by simp [hk']))
    have wi : ∀ (a : Act) u, Region.wanted oi (yielded ops (a.put ok.dst u).tmps) = Region.wanted oi (yielded ops a.tmps) := fun a u => wanted_put oi a ok.dst u hA
    have wk : ∀ (a : Act) u, Region.wanted ok (yielded ops (a.put oi.dst u).tmps) = Region.wanted ok (yielded ops a.tmps) := fun a u => wanted_put ok a oi.dst u hC
    rcases h ok hok with ⟨k1, k2, k3⟩ | ⟨k1, vk, k2, k3⟩ | ⟨k1, k2, mk, ob, k3, k4⟩ | ⟨_, _, k3, _⟩
    · -- k is loud
      have hil : cls i ≠ .loud := hcl (by rw [k2]; simp)
      obtain ⟨ds, u, w1, ⟨y1, hy1⟩, hg⟩ := wp_witness (k3 (Later.self w))
      have hw1 : C0 W0 w1 := by rw [hy1]; exact (hw.later (Later.self w)).later y1
      have hu1 : ∀ n, U n → n < w1.heap.size := fun n hn => by rw [hy1]; exact Nat.lt_of_lt_of_le (hu n hn) (Nat.le_trans (Later.self w).size y1.size)
      rcases ih U _ _ hw1 hu1 hg with ⟨_, i2, _⟩ | ⟨i1, v, i2, _⟩ | ⟨i1, i2, mk, ob, i3, _⟩ | ⟨_, i2, _⟩
      rotate_left 3
      · exact absurd i2 hla
      · exact absurd i2 hil
      · refine .inr (.inl ⟨fun hwn => i1 (by rw [wi]; exact hwn), v, ?_, ?_⟩)
        · exact (yieldsIf_put (a := { a with defers := ds }) hsi hA).1 i2
        · have hyi : YieldsIf P ops (C0 W0) oi v a := (yieldsIf_put (a := { a with defers := ds }) hsi hA).1 i2
          intro o ho
          obtain rfl : ok = o := Option.some.inj (hok.symm.trans ho)
          refine .inl ⟨by rw [wk]; exact k1, k2, fun x => wp_put_in hsk hC hB' ?_⟩
          refine wp_mono_act (k3 x) ?_
          rintro ds' u' w' ⟨⟨y, hy⟩, hg'⟩
          refine ⟨⟨y, hy⟩, ?_⟩
          have hw' : C0 W0 w' := by rw [hy]; exact (hw.later x).later y
          have hu' : ∀ n, U n → n < w'.heap.size := fun n hn => by rw [hy]; exact Nat.lt_of_lt_of_le (hu n hn) (Nat.le_trans x.size y.size)
          rcases ih U _ _ hw' hu' hg' with ⟨_, j2, _⟩ | ⟨j1, v', j2, j3⟩ | ⟨j1, j2, _⟩ | ⟨_, j2, _⟩
          rotate_left 3
          · exact absurd j2 hla
          · exact absurd j2 hil
          · have e : v = v' := yieldsIf_unique hyi ((yieldsIf_put (a := { a with defers := ds' }) hsi hA).1 j2)
            rw [e]; exact j3
          · rw [wi] at j1
            exact absurd (i1 (by rw [wi]; exact j1)) (by rw [j2]; simp)
      · refine .inr (.inr (.inl ⟨by rw [wi] at i1; exact i1, i2, mk, ob, (allocAs_put (a := { a with defers := ds }) hsi hA).1 i3, ?_⟩))
        have hai : AllocAs P oi a mk ob := (allocAs_put (a := { a with defers := ds }) hsi hA).1 i3
        intro b x hb hub hx o ho
        obtain rfl : ok = o := Option.some.inj (hok.symm.trans ho)
        refine .inl ⟨by rw [wk]; exact k1, k2, fun x2 => wp_put_in hsk hC hB' ?_⟩
        refine wp_mono_act (k3 (x.step x2)) ?_
        rintro ds' u' w' ⟨⟨y, hy⟩, hg'⟩
        refine ⟨⟨y, hy⟩, ?_⟩
        have hw' : C0 W0 w' := by rw [hy]; exact (hw.later (x.step x2)).later y
        have hbw : w'.heap[b]? = some ob := by
          have hlt : b < x.w.heap.size := (Array.getElem?_eq_some_iff.1 hx).1
          rw [hy]
          exact (y.le.block b (Nat.lt_of_lt_of_le hlt x2.size)).trans ((x2.le.block b hlt).trans hx)
        have hu' : ∀ n, U n → n < w'.heap.size := fun n hn => by rw [hy]; exact Nat.lt_of_lt_of_le (hu n hn) (Nat.le_trans (x.step x2).size y.size)
        rcases ih U _ _ hw' hu' hg' with ⟨_, j2, _⟩ | ⟨j1, v', j2, j3⟩ | ⟨j1, j2, mk', ob', j3, j4⟩ | ⟨_, j2, _⟩
        rotate_left 3
        · exact absurd j2 hla
        · exact absurd j2 hil
        · have hwn : Region.wanted oi (yielded ops a.tmps) = true := by rw [wi] at i1; exact i1
          exact absurd (j1 (by rw [wi]; exact hwn)) (by rw [i2]; simp)
        · obtain ⟨e1, e2⟩ := allocAs_unique hai ((allocAs_put (a := { a with defers := ds' }) hsi hA).1 j3)
          rw [e1 b]
          exact j4 b (Later.self _) hb hub (by rw [← e2]; exact hbw)
    · -- k yields a value
      rcases ih U _ _ hw hu k3 with ⟨i1, i2, i3⟩ | ⟨i1, v, i2, i3⟩ | ⟨i1, i2, mk, ob, i3, i4⟩ | ⟨_, i2, _⟩
      rotate_left 3
      · exact absurd i2 hla
      · refine .inl ⟨by rw [wi] at i1; exact i1, i2, fun x => ?_⟩
        refine wp_mono_act (wp_put_out hsi hA (fun t ht => hB t ht) (i3 x)) ?_
        rintro ds' u' w' ⟨hy, hg'⟩
        refine ⟨hy, fun o ho => ?_⟩
        obtain rfl : ok = o := Option.some.inj (hok.symm.trans ho)
        exact .inr (.inl ⟨fun hwn => k1 (by rw [wk] at hwn; exact hwn), vk, (yieldsIf_put (a := { a with defers := ds' }) hsk hC).2 k2, hg'⟩)
      · refine .inr (.inl ⟨fun hwn => i1 (by rw [wi]; exact hwn), v, (yieldsIf_put hsi hA).1 i2, fun o ho => ?_⟩)
        obtain rfl : ok = o := Option.some.inj (hok.symm.trans ho)
        refine .inr (.inl ⟨fun hwn => k1 (by rw [wk] at hwn; exact hwn), vk, (yieldsIf_put hsk hC).2 k2, ?_⟩)
        rw [← Act.put_comm a vk v hB]
        exact i3
      · refine .inr (.inr (.inl ⟨by rw [wi] at i1; exact i1, i2, mk, ob, (allocAs_put hsi hA).1 i3, fun b x hb hub hx o ho => ?_⟩))
        obtain rfl : ok = o := Option.some.inj (hok.symm.trans ho)
        refine .inr (.inl ⟨fun hwn => k1 (by rw [wk] at hwn; exact hwn), vk, (yieldsIf_put hsk hC).2 k2, ?_⟩)
        rw [← Act.put_comm a vk (mk b) hB]
        exact i4 b x hb hub hx
    · -- k makes a block
      have hcs : ∀ (b : Nat) (x : Later w), x.w.heap[b]? = some ob → ∀ n, cons b U n → n < x.w.heap.size := fun b x hx n hn => by
        rcases hn with rfl | hn
        · exact (Array.getElem?_eq_some_iff.1 hx).1
        · exact Nat.lt_of_lt_of_le (hu n hn) x.size
      have first := ih _ _ _ (hw.later (Later.new w ob)) (hcs _ (Later.new w ob) (heap_alloc_new w ob)) (k4 w.heap.size (Later.new w ob) hw.size (fun h => Nat.lt_irrefl _ (hu _ h)) (heap_alloc_new w ob))
      rcases first with ⟨i1, i2, _⟩ | ⟨i1, v, i2, _⟩ | ⟨i1, i2, mi, obi, i3, _⟩ | ⟨_, i2, _⟩
      rotate_left 3
      · exact absurd i2 hla
      · exact absurd i2 (hcl (by rw [k2]; simp))
      · have hyi : YieldsIf P ops (C0 W0) oi v a := (yieldsIf_put hsi hA).1 i2
        refine .inr (.inl ⟨fun hwn => i1 (by rw [wi]; exact hwn), v, hyi, fun o ho => ?_⟩)
        obtain rfl : ok = o := Option.some.inj (hok.symm.trans ho)
        refine .inr (.inr (.inl ⟨by rw [wk]; exact k1, k2, mk, ob, (allocAs_put hsk hC).2 k3, fun b x hb hub hx => ?_⟩))
        rcases ih _ _ _ (hw.later x) (hcs b x hx) (k4 b x hb hub hx) with ⟨j1, j2, _⟩ | ⟨j1, v', j2, j3⟩ | ⟨j1, j2, _⟩ | ⟨_, j2, _⟩
        rotate_left 3
        · exact absurd j2 hla
        · rw [wi] at j1
          exact absurd (i1 (by rw [wi]; exact j1)) (by rw [j2]; simp)
        · have e : v = v' := yieldsIf_unique hyi ((yieldsIf_put hsi hA).1 j2)
          rw [← Act.put_comm a (mk b) v hB, e]
          exact j3
        · rw [wi] at j1
          exact absurd (i1 (by rw [wi]; exact j1)) (by rw [j2]; simp)
      · have hai : AllocAs P oi a mi obi := (allocAs_put hsi hA).1 i3
        have hwn : Region.wanted oi (yielded ops a.tmps) = true := by rw [wi] at i1; exact i1
        refine .inr (.inr (.inl ⟨hwn, i2, mi, obi, hai, fun b x hb hub hx o ho => ?_⟩))
        obtain rfl : ok = o := Option.some.inj (hok.symm.trans ho)
        refine .inr (.inr (.inl ⟨by rw [wk]; exact k1, k2, mk, ob, (allocAs_put hsk hC).2 k3, fun b' x' hb' hub' hx' => ?_⟩))
        have hne : b' ≠ b := fun e => hub' (.inl e)
        rcases ih _ _ _ (hw.later (x.step x')) (hcs b' (x.step x') hx') (k4 b' (x.step x') hb' (fun h => hub' (.inr h)) hx') with ⟨_, j2, _⟩ | ⟨j1, _⟩ | ⟨j1, j2, mk', ob', j3, j4⟩ | ⟨_, j2, _⟩
        rotate_left 3
        · exact absurd j2 hla
        · rw [i2] at j2; cases j2
        · exact absurd (j1 (by rw [wi]; exact hwn)) (by rw [i2]; simp)
        · obtain ⟨e1, e2⟩ := allocAs_unique hai ((allocAs_put hsi hA).1 j3)
          rw [← Act.put_comm a (mk b') (mi b) hB, e1 b]
          rw [cons_comm b' b U]
          refine j4 b (Later.self _) hb (fun h => h.elim (fun e => hne e.symm) hub) ?_
          have hlt : b < x.w.heap.size := (Array.getElem?_eq_some_iff.1 hx).1
          rw [← e2, ← hx]
          exact x'.le.block b hlt
    · -- k is the last
      exact absurd (k3 i (by simp)) hla

theorem any_of_good {Q' : Exit → Act → World → Prop} (hs : Region.noSelect ops = true) (hE : edgesB ops = true) (hC : certB ops (Region.before ops) = true) :
    ∀ (n : Nat) (U : Nat → Prop) (rem : List Nat) (listed : Array Bool) (a : Act) (w : World), rem.length = n → ((∃ i ∈ rem, cls i ≠ .last) → C0 W0 w ∧ ∀ n, U n → n < w.heap.size) → listed.size = ops.size →
      rem.Pairwise (fun k i => sepB ops (Region.before ops) cls k i = true ∧ k ≠ i) → (∀ i, i ∈ rem ↔ i < ops.size ∧ listed.getD i true = false) →
      (∀ j o, ops[j]? = some o → listed.getD j true = true → ∀ e ∈ o.after, Region.binds .any e = true → listed.getD e.on true = true) →
      Good P ops W0 cls (fun a w => Q' .normal a w) U rem a w → wpAny P .any ops Q' n listed a w
  | 0, _, rem, listed, a, w, hn, _, _, _, hmem, _, hg => by
    obtain rfl : rem = [] := List.eq_nil_of_length_eq_zero hn
    refine ⟨?_, hg (Later.self w)⟩
    rw [List.eq_nil_iff_forall_not_mem]
    intro i hi
    obtain ⟨h0, o, ho, _⟩ := mem_ready.1 hi
    exact absurd ((hmem i).2 ⟨(Array.getElem?_eq_some_iff.1 ho).1, h0⟩) (by simp)
  | n + 1, U, rem, listed, a, w, hn, hw, hsz, hpw, hmem, hdown, hg => by
    refine ⟨fun hr => ?_, fun i hi => ?_⟩
    · exfalso
      -- the least of what is left may come up
      have key : ∀ m i, i < m → i ∈ rem → False := by
        intro m
        induction m with
        | zero => intro i h; exact absurd h (Nat.not_lt_zero _)
        | succ m ih =>
          intro i him hir
          obtain ⟨hi1, hi2⟩ := (hmem i).1 hir
          have hready : i ∈ Region.ready .any ops listed := by
            refine mem_ready.2 ⟨hi2, ops[i], by simp [hi1], fun e he hb => ?_⟩
            have hlt := edgesB_spec hE (i := i) (o := ops[i]) (by simp [hi1]) e he hb
            have hlt2 : e.on < listed.size := by rw [hsz]; omega
            cases hl : listed.getD e.on true
            · exact (ih e.on (by omega) ((hmem e.on).2 ⟨by omega, hl⟩)).elim
            · simpa [hlt2] using hl
          rw [hr] at hready
          cases hready
      match rem, hn with
      | i :: rest, _ => exact key (i + 1) i (by omega) (by simp)
    · obtain ⟨h0, oi, hoi, hdep⟩ := mem_ready.1 hi
      have hi1 : i < ops.size := (Array.getElem?_eq_some_iff.1 hoi).1
      have hdep' : ∀ e ∈ oi.after, Region.binds .any e = true → listed.getD e.on true = true := fun e he hb => by
        have hh := hdep e he hb
        have hlt := edgesB_spec hE hoi e he hb
        have hlt2 : e.on < listed.size := by rw [hsz]; omega
        simpa [hlt2] using hh
      obtain ⟨l1, l2, rfl⟩ := split_mem ((hmem i).2 ⟨hi1, h0⟩)
      have hap : ∀ k ∈ l1, ∃ ok, ops[k]? = some ok ∧ ok.apart ops oi = true ∧ (cls k ≠ .val → cls i ≠ .loud) ∧ cls i ≠ .last := by
        intro k hk
        obtain ⟨hk1, hk2⟩ := (hmem k).1 (by simp [hk])
        have hsep := ((List.pairwise_append.1 hpw).2.2 k hk i (by simp)).1
        refine ⟨ops[k], by simp [hk1], ?_⟩
        rw [sepB, Bool.or_eq_true] at hsep
        rcases hsep with hsep | hsep
        · have := cert_listed hE hC hdown (i + 1) i oi (by omega) hoi hdep' k hk1 hsep
          rw [hk2] at this
          cases this
        · simp only [hoi, hk1, getElem?_pos, Bool.and_eq_true, Bool.or_eq_true, beq_iff_eq, bne_iff_ne] at hsep
          exact ⟨hsep.1.1, fun hv => hsep.1.2.resolve_left hv, hsep.2⟩
      have hp := pull hoi (Region.noSelect_spec hs) U l1 l2 a w (fun hne => by
        obtain ⟨k, hk⟩ := List.exists_mem_of_ne_nil _ hne
        obtain ⟨_, _, _, _, h4⟩ := hap k hk
        exact hw ⟨i, by simp, h4⟩) hap hg
      have hpw' : (l1 ++ l2).Pairwise (fun k i => sepB ops (Region.before ops) cls k i = true ∧ k ≠ i) :=
        hpw.sublist (List.Sublist.append_left (List.sublist_cons_self i l2) l1)
      have hnot : i ∉ l1 ++ l2 := by
        intro hmi
        rcases List.mem_append.1 hmi with hm | hm
        · exact ((List.pairwise_append.1 hpw).2.2 i hm i (by simp)).2 rfl
        · exact ((List.pairwise_cons.1 (List.pairwise_append.1 hpw).2.1).1 i hm).2 rfl
      have hlen : (l1 ++ l2).length = n := by simp at hn ⊢; omega
      have hmem' : ∀ j, j ∈ l1 ++ l2 ↔ j < ops.size ∧ (listed.setIfInBounds i true).getD j true = false := by
        intro j
        by_cases hji : j = i
        · subst hji
          refine ⟨fun h => absurd h hnot, fun h => ?_⟩
          have hlt2 : j < listed.size := by rw [hsz]; exact hi1
          simp [hlt2] at h
        · have e : (listed.setIfInBounds i true).getD j true = listed.getD j true := getD_set_ne true (Ne.symm hji)
          rw [e, ← hmem j]
          simp [hji]
      have hdown' : ∀ j o, ops[j]? = some o → (listed.setIfInBounds i true).getD j true = true → ∀ e ∈ o.after, Region.binds .any e = true → (listed.setIfInBounds i true).getD e.on true = true := by
        intro j o ho hl e he hb
        have up : listed.getD e.on true = true → (listed.setIfInBounds i true).getD e.on true = true := fun h => by
          by_cases hei : i = e.on
          · subst hei
            have hlt2 : e.on < listed.size := by rw [hsz]; exact hi1
            simp [hlt2]
          · rw [getD_set_ne true hei]; exact h
        by_cases hji : i = j
        · subst hji
          obtain rfl : oi = o := Option.some.inj (hoi.symm.trans ho)
          exact up (hdep' e he hb)
        · rw [getD_set_ne true hji] at hl
          exact up (hdown j o ho hl e he hb)
      have next := fun (U : Nat → Prop) (a' : Act) (w' : World) (hw' : (∃ j ∈ l1 ++ l2, cls j ≠ .last) → C0 W0 w' ∧ ∀ n, U n → n < w'.heap.size) (hg' : Good P ops W0 cls (fun a w => Q' .normal a w) U (l1 ++ l2) a' w') =>
        any_of_good (Q' := Q') hs hE hC n U (l1 ++ l2) (listed.setIfInBounds i true) a' w' hlen hw' (by simpa using hsz) hpw' hmem' hdown' hg'
      unfold wpOp
      simp only [hoi]
      rcases hp with ⟨h1, h2, h3⟩ | ⟨h1, v, h2, h3⟩ | ⟨h1, h2, mk, ob, h3, h4⟩ | ⟨h1, h2, h3, h4⟩
      · have hw := hw ⟨i, by simp, by rw [h2]; simp⟩
        rw [if_pos h1]
        refine .inl ?_
        have hx := Oper.wp_mono (K' := wpAny P .any ops Q' n (listed.setIfInBounds i true)) (fun a' w' h => next U a' w' (fun _ => by obtain ⟨⟨y, hy⟩, _⟩ := h; rw [hy]; exact ⟨(hw.1.later (Later.self w)).later y, fun n hn => Nat.lt_of_lt_of_le (hw.2 n hn) (Nat.le_trans (Later.self w).size y.size)⟩) h.2) (h3 (Later.self w))
        exact wp_of_F3 hx
      · rcases h2 with ⟨hwn, hy⟩ | ⟨hwn, rfl⟩
        · have hw := hw ⟨i, by simp, by rw [h1 hwn]; simp⟩
          rw [if_pos hwn]
          refine .inl ?_
          simp only [Oper.wp, hy w hw.1, Oper.upon]
          exact next U _ _ (fun _ => hw) h3
        · rw [if_neg (by rw [hwn]; simp)]
          exact next U _ _ (fun ⟨j, hj, hc⟩ => hw ⟨j, by rcases List.mem_append.1 hj with h | h <;> simp [h], hc⟩) h3
      · have hw := hw ⟨i, by simp, by rw [h2]; simp⟩
        rw [if_pos h1]
        refine .inl ?_
        simp only [Oper.wp, h3 w, Oper.upon]
        exact next _ _ _ (fun _ => ⟨hw.1.later (Later.new w ob), fun n hn => by
          rcases hn with rfl | hn
          · exact (Array.getElem?_eq_some_iff.1 (heap_alloc_new w ob)).1
          · exact Nat.lt_of_lt_of_le (hw.2 n hn) (Later.new w ob).size⟩) (h4 w.heap.size (Later.new w ob) hw.1.size (fun h => Nat.lt_irrefl _ (hw.2 _ h)) (heap_alloc_new w ob))
      · rw [if_pos h1]
        refine .inl ?_
        have hx := Oper.wp_mono (K' := wpAny P .any ops Q' n (listed.setIfInBounds i true)) (fun a' w' h => next U a' w' (fun ⟨j, hj, hc⟩ => absurd (h3 j hj) hc) h) (h4 (Later.self w))
        exact wp_of_F3 hx

/-- **A region that draws its order, walked once.** -/
theorem region_mix {id : Nat} {Q' : Exit → Act → World → Prop} {a : Act} {w : World} {l : List Oper} (order : List Nat) (cls : Nat → Cls) (hm : P.follows .mixedOrders = true)
    (hB : mixB l.toArray order cls = true) (h : Good P l.toArray w cls (fun a w => Q' .normal a w) none0 order a w) : (Code.region id l.toArray true).wp P Q' a w := by
  simp only [mixB, Bool.and_eq_true] at hB
  obtain ⟨⟨⟨⟨⟨hs, hE⟩, hC⟩, hp⟩, hr⟩, ho⟩ := hB
  refine wp_region_any hm ?_
  have hlen : order.length = l.toArray.size := by
    have hnd : order.Nodup := (pairsB_spec hp).imp (fun h => h.2)
    have h1 : ∀ i, i ∈ order ↔ i ∈ List.range l.toArray.size := fun i => by
      rw [List.mem_range]
      rw [List.all_eq_true] at ho hr
      exact ⟨fun h => of_decide_eq_true (ho i h), fun h => by have := hr i (List.mem_range.2 h); simpa using this⟩
    have hperm := (List.perm_ext_iff_of_nodup hnd List.nodup_range).2 h1
    rw [hperm.length_eq, List.length_range]
  have := any_of_good (P := P) (W0 := w) (cls := cls) (Q' := Q') hs hE hC order.length none0 order (Array.replicate l.toArray.size false) a { w with drawn := w.drawn + 1 } rfl (fun _ => ⟨⟨Later.draw w, rfl⟩, fun _ h => h.elim⟩) (by simp) (pairsB_spec hp)
    (fun i => by
      rw [List.all_eq_true] at ho hr
      constructor
      · intro h
        have hlt := of_decide_eq_true (ho i h)
        exact ⟨hlt, by simp at hlt; simp [hlt]⟩
      · intro h
        have := hr i (List.mem_range.2 h.1)
        simpa using this)
    (fun j o hj hl => by
      have hlt : j < l.toArray.size := (Array.getElem?_eq_some_iff.1 hj).1
      simp at hlt
      simp [hlt] at hl)
    (h.later (Later.draw w))
  rw [hlen] at this
  exact this
end
section
variable {P : Program} {ops : Array Oper} {W0 : World} {cls : Nat → Cls} {Q : Act → World → Prop} {i : Nat} {a : Act} {w : World} {o : Oper}
/-- The same, of the operations themselves in the order of the text. -/
def GoodL (P : Program) (ops : Array Oper) (W0 : World) (cls : Nat → Cls) (Q : Act → World → Prop) : (Nat → Prop) → Nat → List Oper → Act → World → Prop
  | _, _, [], a, w => ∀ x : Later w, Q a x.w
  | U, i, o :: rest, a, w =>
      (Region.wanted o (yielded ops a.tmps) = true ∧ cls i = .loud ∧ ∀ x : Later w, o.wp P a x.w (fun a' w' => (∃ y : Later x.w, w' = y.w) ∧ GoodL P ops W0 cls Q U (i + 1) rest a' w') F3) ∨
      ((Region.wanted o (yielded ops a.tmps) = true → cls i = .val) ∧ ∃ v, YieldsIf P ops (C0 W0) o v a ∧ GoodL P ops W0 cls Q U (i + 1) rest (a.put o.dst v) w) ∨
      (Region.wanted o (yielded ops a.tmps) = true ∧ cls i = .new ∧ ∃ mk ob, AllocAs P o a mk ob ∧
        ∀ (b : Nat) (x : Later w), W0.heap.size ≤ b → ¬ U b → x.w.heap[b]? = some ob → GoodL P ops W0 cls Q (cons b U) (i + 1) rest (a.put o.dst (mk b)) x.w) ∨
      (Region.wanted o (yielded ops a.tmps) = true ∧ cls i = .last ∧ (∀ j, j < rest.length → cls (i + 1 + j) = .last) ∧ ∀ x : Later w, o.wp P a x.w (fun a' w' => GoodL P ops W0 cls Q U (i + 1) rest a' w') F3)

theorem good_of_goodL : ∀ (U : Nat → Prop) (l : List Oper) (k : Nat) (a : Act) (w : World), (∀ j, l[j]? = ops[k + j]?) → GoodL P ops W0 cls Q U k l a w → Good P ops W0 cls Q U (List.range' k l.length) a w
  | _, [], _, _, _, _, h => h
  | U, o :: l, k, a, w, hl, h => by
    have h0 : ops[k]? = some o := by simpa using (hl 0).symm
    have hl' : ∀ j, l[j]? = ops[k + 1 + j]? := fun j => by have := hl (j + 1); simpa [Nat.add_assoc, Nat.add_comm 1 j] using this
    have ih := fun U a w => good_of_goodL U l (k + 1) a w hl'
    rw [List.length_cons, List.range'_succ]
    intro o' ho'
    obtain rfl : o = o' := Option.some.inj (h0.symm.trans ho')
    rcases h with ⟨h1, h2, h3⟩ | ⟨h1, v, h2, h3⟩ | ⟨h1, h2, mk, ob, h3, h4⟩ | ⟨h1, h2, hl2, h3⟩
    · exact .inl ⟨h1, h2, fun x => Oper.wp_mono (fun a' w' hh => ⟨hh.1, ih U a' w' hh.2⟩) (h3 x)⟩
    · exact .inr (.inl ⟨h1, v, h2, ih U _ _ h3⟩)
    · exact .inr (.inr (.inl ⟨h1, h2, mk, ob, h3, fun b x hb hu hx => ih _ _ _ (h4 b x hb hu hx)⟩))
    · exact .inr (.inr (.inr ⟨h1, h2, fun j hj => by
        obtain ⟨q, hq, rfl⟩ := List.mem_range'.1 hj
        simpa using hl2 q hq, fun x => Oper.wp_mono (fun a' w' hh => ih U a' w' hh) (h3 x)⟩))

/-- **A region that draws its order, walked once, in the order of its text.** -/
theorem region_mixL {id : Nat} {Q' : Exit → Act → World → Prop} {a : Act} {w : World} {l : List Oper} (cls : Nat → Cls) (hm : P.follows .mixedOrders = true)
    (hB : mixB l.toArray (List.range' 0 l.length) cls = true) (h : GoodL P l.toArray w cls (fun a w => Q' .normal a w) none0 0 l a w) : (Code.region id l.toArray true).wp P Q' a w :=
  region_mix (List.range' 0 l.length) cls hm hB (good_of_goodL none0 l 0 a w (fun j => by simp) h)

variable {rest : List Oper} {U : Nat → Prop}
theorem skip (hw : Region.wanted o (yielded ops a.tmps) = false) (h : GoodL P ops W0 cls Q U (i + 1) rest (a.put o.dst undef) w) : GoodL P ops W0 cls Q U i (o :: rest) a w :=
  .inr (.inl ⟨fun h1 => (by rw [hw] at h1; cases h1), undef, .inr ⟨hw, rfl⟩, h⟩)

theorem val (hc : cls i = .val) (hv : valOp o.op = true) (hw : Region.wanted o (yielded ops a.tmps) = true)
    (h : ∀ K : Act → Prop, (∀ a', GoodL P ops W0 cls Q U (i + 1) rest a' w → K a') → o.quiet P a (fun w' => ∃ x : Later W0, w' = x.w) K) : GoodL P ops W0 cls Q U i (o :: rest) a w := by
  obtain ⟨v, h1, h2⟩ := h (fun a' => GoodL P ops W0 cls Q U (i + 1) rest a' w) (fun _ h => h)
  refine .inr (.inl ⟨fun _ => hc, v, .inl ⟨hw, fun w' hw' => ?_⟩, h2⟩)
  have h3 := h1 w' hw'
  unfold Oper.quietAt at h3
  cases hr : (execOp a.eval o).run P w' with
  | ok n w1 =>
    obtain ⟨u, rfl⟩ := valOp_run hv hr
    rw [hr] at h3
    simp only [Oper.quietUpon] at h3
    rw [h3.1, h3.2]
  | halt x w1 => rw [hr] at h3; exact h3.elim

theorem loud (hc : cls i = .loud) (hw : Region.wanted o (yielded ops a.tmps) = true)
    (h : ∀ (x : Later w) (K : Act → World → Prop), (∀ (a' : Act) (y : Later x.w), GoodL P ops W0 cls Q U (i + 1) rest a' y.w → K a' y.w) → o.wp P a x.w K F3) : GoodL P ops W0 cls Q U i (o :: rest) a w :=
  .inl ⟨hw, hc, fun x => h x _ (fun _ y hg => ⟨⟨y, rfl⟩, hg⟩)⟩

theorem new (hc : cls i = .new) (hw : Region.wanted o (yielded ops a.tmps) = true) (mk : Nat → Value) (ob : Obj) (hal : AllocAs P o a mk ob)
    (h : ∀ (b : Nat) (x : Later w), W0.heap.size ≤ b → ¬ U b → x.w.heap[b]? = some ob → GoodL P ops W0 cls Q (cons b U) (i + 1) rest (a.put o.dst (mk b)) x.w) : GoodL P ops W0 cls Q U i (o :: rest) a w :=
  .inr (.inr (.inl ⟨hw, hc, mk, ob, hal, h⟩))

theorem last (hc : cls i = .last) (hw : Region.wanted o (yielded ops a.tmps) = true)
    (h : ∀ (x : Later w) (K : Act → World → Prop), (∀ (a' : Act) (w' : World), GoodL P ops W0 cls Q U (i + 1) [] a' w' → K a' w') → o.wp P a x.w K F3) : GoodL P ops W0 cls Q U i [o] a w :=
  .inr (.inr (.inr ⟨hw, hc, fun _ hj => absurd hj (Nat.not_lt_zero _), fun x => h x _ (fun _ _ hg => hg)⟩))
/-- an operation that may change what was there: behind it come such alone -/
theorem lastR (hc : cls i = .last) (hw : Region.wanted o (yielded ops a.tmps) = true) (hr : ∀ j, j < rest.length → cls (i + 1 + j) = .last)
    (h : ∀ (x : Later w) (K : Act → World → Prop), (∀ (a' : Act) (w' : World), GoodL P ops W0 cls Q U (i + 1) rest a' w' → K a' w') → o.wp P a x.w K F3) : GoodL P ops W0 cls Q U i (o :: rest) a w :=
  .inr (.inr (.inr ⟨hw, hc, hr, fun x => h x _ (fun _ _ hg => hg)⟩))

theorem skipU {d : Tmp} (hw : Region.wanted o (yielded ops a.tmps) = false) (hd : o.dst = some d) (hu : a.tmps.getD d undef = undef) (h : GoodL P ops W0 cls Q U (i + 1) rest a w) : GoodL P ops W0 cls Q U i (o :: rest) a w :=
  skip hw (by rw [hd, put_undef hu]; exact h)
/-- There is one more. -/
theorem atCons (h : GoodL P ops W0 cls Q U i (o :: rest) a w) : GoodL P ops W0 cls Q U i (o :: rest) a w := h
/-- the kinds of operations, by three lists of numbers -/
theorem done (h : ∀ x : Later w, Q a x.w) : GoodL P ops W0 cls Q U i [] a w := h
end
end MixU
end Go.Proofs.Ytdhdpbnlhnodjaa

/-
  Maps whose keys and values are plain data, read as lists of pairs: the law of look-up, store and delete, over any program.
-/
namespace Go.Proofs.Ytdhdpbnlhnodjaa
open Go.RowKit
namespace Tb

/-- Keys that the program tells apart as their data are. -/
structure KeyOK {κ : Type} [DecidableEq κ] (P : Program) (kt : TypeId) (key : κ → Value) : Prop where
  eq : ∀ (w : World) (a b : κ), (Op.equal kt (key a) (key b)).run P w = .ok (decide (a = b)) w
  chk : ∀ (w : World) (e : Bool) (a : κ), (Instr.checkKey e 10000 kt (key a)).run P w = .ok () w
  desc : ∃ d, P.underlying kt = some d ∧ ∀ a b, Instr.sameNow d (key a) (key b) = none
  bits : ∀ a, Instr.sameBits 10000 (key a) (key a) = true

section
variable {κ ν : Type} [DecidableEq κ] {P : Program} {kt : TypeId} {key : κ → Value} {val : ν → Value}

def get (M : List (κ × ν)) (k : κ) : Option ν := (M.find? (fun p => decide (p.1 = k))).map (·.2)
def put (M : List (κ × ν)) (k : κ) (v : ν) : List (κ × ν) := if (get M k).isSome then M.map (fun p => if p.1 = k then (k, v) else p) else M ++ [(k, v)]
def del (M : List (κ × ν)) (k : κ) : List (κ × ν) := M.filter (fun p => decide (p.1 ≠ k))

/-- What an array of entries holds. -/
def Reads (key : κ → Value) (val : ν → Value) (es : List MapEntry) (M : List (κ × ν)) : Prop := es.map (fun e => (e.key, e.val)) = M.map (fun p => (key p.1, val p.2))

theorem run_find (K : KeyOK P kt key) (w : World) (k : κ) : ∀ (es : List MapEntry) (M : List (κ × ν)) (i : Nat), Reads key val es M →
    (Instr.findAsking kt (key k) es i).run P w = .ok ((M.findIdx? (fun p => decide (p.1 = k))).bind fun j => (es[j]?).map fun e => (i + j, e.val)) w
  | [], M, i, h => by
    cases M with
    | nil => simp [Instr.findAsking]
    | cons p M => simp [Reads] at h
  | e :: es, M, i, h => by
    cases M with
    | nil => simp [Reads] at h
    | cons p M =>
      simp only [Reads, List.map_cons, List.cons.injEq, Prod.mk.injEq] at h
      obtain ⟨⟨h1, h2⟩, h3⟩ := h
      have ih := run_find K w k es M (i + 1) h3
      rw [Instr.findAsking, Sem.run_bind, h1, K.eq w k p.1, Result.andThen_ok]
      by_cases hk : p.1 = k
      · subst hk
        simp [List.findIdx?_cons]
      · have hk' : ¬ k = p.1 := fun e => hk e.symm
        simp only [hk', decide_false, Bool.false_eq_true, if_false, ih, List.findIdx?_cons, hk]
        cases M.findIdx? (fun p => decide (p.1 = k)) <;> simp [Nat.add_assoc, Nat.add_comm 1]

omit [DecidableEq κ] in
theorem reads_length {es : List MapEntry} {M : List (κ × ν)} (h : Reads key val es M) : es.length = M.length := by
  have := congrArg List.length h
  simpa using this

omit [DecidableEq κ] in
theorem reads_at {es : List MapEntry} {M : List (κ × ν)} (h : Reads key val es M) {j : Nat} (hj : j < M.length) : ∃ e, es[j]? = some e ∧ e.key = key M[j].1 ∧ e.val = val M[j].2 := by
  have hl : j < es.length := by rw [reads_length h]; exact hj
  have e := congrArg (fun l => l[j]?) h
  simp only [List.getElem?_map, List.getElem?_eq_getElem hl, List.getElem?_eq_getElem hj, Option.map_some, Option.some.injEq, Prod.mk.injEq] at e
  exact ⟨es[j], List.getElem?_eq_getElem hl, e.1, e.2⟩

theorem run_findKey (K : KeyOK P kt key) (w : World) (k : κ) {es : List MapEntry} {M : List (κ × ν)} (h : Reads key val es M) :
    (Instr.findKey kt (key k) es).run P w = .ok ((M.findIdx? (fun p => decide (p.1 = k))).bind fun j => (es[j]?).map fun e => (j, e.val)) w := by
  obtain ⟨d, hd, hn⟩ := K.desc
  have h0 := run_find K w k es M 0 h
  simp only [Nat.zero_add] at h0
  rw [Instr.findKey, Sem.run_bind, run_underlying hd, Result.andThen_ok]
  cases es with
  | nil =>
    have : M = [] := List.eq_nil_of_length_eq_zero (by have := reads_length h; simpa using this.symm)
    subst this
    simp [Instr.findNow]
  | cons e es =>
    cases M with
    | nil => simp [Reads] at h
    | cons p M =>
      have h' := h
      simp only [Reads, List.map_cons, List.cons.injEq, Prod.mk.injEq] at h'
      simp only [Instr.findNow, h'.1.1, hn]
      exact h0

theorem get_findIdx (M : List (κ × ν)) (k : κ) : get M k = (M.findIdx? (fun p => decide (p.1 = k))).bind fun j => (M[j]?).map (·.2) := by
  induction M with
  | nil => rfl
  | cons p M ih =>
    unfold get at ih ⊢
    by_cases h : p.1 = k
    · simp [List.findIdx?_cons, h]
    · simp only [List.find?_cons, List.findIdx?_cons, h, decide_false, Bool.false_eq_true, if_false, ih]
      cases M.findIdx? (fun p => decide (p.1 = k)) <;> simp

/-- A block is a map that reads as M. -/
def Tab (key : κ → Value) (val : ν → Value) (w : World) (b : Nat) (M : List (κ × ν)) : Prop :=
  ∃ es clock, w.heap[b]? = some (.map es clock) ∧ Reads key val es.toList M ∧ (M.map (·.1)).Nodup ∧ (es.toList.map (·.born)).Nodup ∧ ∀ e ∈ es.toList, e.born < clock

theorem run_getObj {w : World} {b : Nat} {es : Array MapEntry} {clock : Nat} (h : w.heap[b]? = some (.map es clock)) : (getObj b).run P w = .ok (.map es clock) w := by
  simp [getObj, Sem.run, h]

theorem Tab.look {w : World} {b : Nat} {M : List (κ × ν)} (h : Tab key val w b M) (K : KeyOK P kt key) {mt et : TypeId} (hm : P.underlying mt = some (.map kt et)) {z : Value}
    (hz : ∀ w, (zeroValue et).run P w = .ok z w) (k : κ) (ok : Bool) :
    (Instr.lookup mt (.map (some b)) (key k) ok).run P w = .ok (if ok then .tuple #[((get M k).map val).getD z, .bool (get M k).isSome] else ((get M k).map val).getD z) w := by
  obtain ⟨es, clock, hb, hr, _⟩ := h
  have hf := run_findKey K w k hr
  rw [Instr.lookup, Sem.run_bind, run_underlying hm, Result.andThen_ok]
  simp only [Sem.run_bind, run_getObj hb, Result.andThen_ok, Sem.run_pure, K.chk, hf, get_findIdx]
  cases hi : M.findIdx? (fun p => decide (p.1 = k)) with
  | none => simp [hz]
  | some j =>
    have hj : j < M.length := (List.findIdx?_eq_some_iff_getElem.1 hi).1
    obtain ⟨e, he, _, hv⟩ := reads_at hr hj
    have he' : es[j]? = some e := by simpa using he
    simp [he', hj, hv]

omit [DecidableEq κ] in
theorem Tab.later {w : World} {b : Nat} {M : List (κ × ν)} (h : Tab key val w b M) (x : Later w) : Tab key val x.w b M := by
  obtain ⟨es, clock, hb, r⟩ := h
  exact ⟨es, clock, by rw [x.le.block b (Array.getElem?_eq_some_iff.1 hb).1]; exact hb, r⟩
omit [DecidableEq κ] in
theorem Tab.lt {w : World} {b : Nat} {M : List (κ × ν)} (h : Tab key val w b M) : b < w.heap.size := by
  obtain ⟨es, clock, hb, r⟩ := h
  exact (Array.getElem?_eq_some_iff.1 hb).1
omit [DecidableEq κ] in
theorem Tab.nil (w : World) {b : Nat} (h : w.heap[b]? = some (.map #[] 0)) : Tab key val w b ([] : List (κ × ν)) := ⟨#[], 0, h, rfl, by simp, by simp, by simp⟩

/-- A world in which one block is another map. -/
def setMap (w : World) (b : Nat) (o : Obj) : World := { w with heap := w.heap.setIfInBounds b o }
theorem setMap_same {w : World} {b : Nat} {o : Obj} (h : b < w.heap.size) : (setMap w b o).heap[b]? = some o := by simp [setMap, h]
theorem setMap_other {w : World} {b k : Nat} {o : Obj} (h : k ≠ b) : (setMap w b o).heap[k]? = w.heap[k]? := by simp [setMap, Array.getElem?_setIfInBounds_ne (Ne.symm h)]
theorem setMap_size {w : World} {b : Nat} {o : Obj} : (setMap w b o).heap.size = w.heap.size := by simp [setMap]
theorem run_setObj {w : World} {b : Nat} {es : Array MapEntry} {clock : Nat} (h : w.heap[b]? = some (.map es clock)) (o : Obj) : (setObj b o).run P w = .ok () (setMap w b o) := by
  simp [setObj, Sem.run, h, setMap]

theorem get_isSome (M : List (κ × ν)) (k : κ) : (get M k).isSome = (M.findIdx? (fun p => decide (p.1 = k))).isSome := by
  rw [get_findIdx]
  cases hi : M.findIdx? (fun p => decide (p.1 = k)) with
  | none => rfl
  | some j =>
    have hj : j < M.length := (List.findIdx?_eq_some_iff_getElem.1 hi).1
    simp [hj]

theorem map_modify {α : Type} (f : α → α) (p : α → Bool) : ∀ (l : List α) (j : Nat), l.findIdx? p = some j → (l.map p).count true ≤ 1 → l.modify j f = l.map (fun x => if p x then f x else x)
  | [], _, h, _ => by simp at h
  | x :: l, j, h, hc => by
    rw [List.findIdx?_cons] at h
    by_cases hp : p x = true
    · simp only [hp, if_true, Option.some.injEq] at h
      subst h
      have hz : ∀ y ∈ l, p y = false := by
        simp only [List.map_cons, hp, List.count_cons_self] at hc
        have : (l.map p).count true = 0 := by omega
        intro y hy
        have := List.count_eq_zero.1 this
        cases hpy : p y
        · rfl
        · exact absurd (hpy ▸ List.mem_map_of_mem hy) this
      simp only [List.modify_zero_cons, List.map_cons, hp, if_true, List.cons.injEq, true_and]
      conv => lhs; rw [← List.map_id l]
      exact List.map_congr_left fun y hy => by simp [hz y hy]
    · simp only [hp, Bool.false_eq_true, if_false, Option.map_eq_some_iff] at h
      obtain ⟨j', hj', rfl⟩ := h
      have hp' : p x = false := by simpa using hp
      simp only [List.modify_succ_cons, List.map_cons, hp', Bool.false_eq_true, if_false, List.cons.injEq, true_and]
      exact map_modify f p l j' hj' (by simpa [hp'] using hc)

theorem count_nodup (M : List (κ × ν)) (k : κ) (h : (M.map (·.1)).Nodup) : (M.map (fun p => decide (p.1 = k))).count true ≤ 1 := by
  have e : (M.map (fun p => decide (p.1 = k))).count true = (M.map (·.1)).count k := by
    induction M with
    | nil => rfl
    | cons p M ih =>
      simp only [List.map_cons, List.nodup_cons] at h
      simp only [List.map_cons, List.count_cons, ih h.2]
      by_cases hk : p.1 = k <;> simp [hk]
  rw [e]
  exact List.nodup_iff_count.1 h k

theorem put_keys (M : List (κ × ν)) (k : κ) (v : ν) (h : (M.map (·.1)).Nodup) : ((put M k v).map (·.1)).Nodup := by
  unfold put
  split
  · rw [List.map_map]
    have : ((fun x => x.1) ∘ fun p : κ × ν => if p.1 = k then (k, v) else p) = (fun p => p.1) := by
      funext p
      by_cases hk : p.1 = k <;> simp [hk]
    rw [this]; exact h
  · rename_i hn
    rw [List.map_append, List.nodup_append]
    refine ⟨h, by simp, ?_⟩
    intro a ha b hb
    simp only [List.map_cons, List.map_nil, List.mem_singleton] at hb
    subst hb
    rintro rfl
    apply hn
    obtain ⟨p, hp, rfl⟩ := List.mem_map.1 ha
    rw [get, Option.isSome_map, List.find?_isSome]
    exact ⟨p, hp, by simp⟩

theorem Tab.store {w : World} {b : Nat} {M : List (κ × ν)} (h : Tab key val w b M) (K : KeyOK P kt key) {mt et : TypeId} (hm : P.underlying mt = some (.map kt et)) (k : κ) (v : ν) :
    ∃ o, (Instr.mapUpdate mt (.map (some b)) (key k) (val v)).run P w = .ok () (setMap w b o) ∧ Tab key val (setMap w b o) b (put M k v) := by
  obtain ⟨es, clock, hb, hr, hn, hbn, hbl⟩ := h
  have hlt : b < w.heap.size := (Array.getElem?_eq_some_iff.1 hb).1
  have hf := run_findKey K w k hr
  have hso : (get M k).isSome = (M.findIdx? (fun p => decide (p.1 = k))).isSome := get_isSome M k
  cases hi : M.findIdx? (fun p => decide (p.1 = k)) with
  | none =>
    rw [hi] at hso hf
    refine ⟨.map (es.push { key := key k, val := val v, born := clock }) (clock + 1), ?_, _, _, setMap_same hlt, ?_, put_keys M k v hn, ?_, ?_⟩
    · rw [Instr.mapUpdate, Sem.run_bind, run_underlying hm, Result.andThen_ok]
      simp only [Sem.run_bind, run_getObj hb, Result.andThen_ok, K.chk, hf, Option.bind_none, run_setObj hb]
    · simp only [put, hso, Option.isSome_none, Bool.false_eq_true, if_false]
      simp only [Reads, Array.toList_push, List.map_append, List.map_cons, List.map_nil]
      rw [show es.toList.map (fun e => (e.key, e.val)) = M.map (fun p => (key p.1, val p.2)) from hr]
    · simp only [Array.toList_push, List.map_append, List.map_cons, List.map_nil, List.nodup_append]
      refine ⟨hbn, by simp, ?_⟩
      intro a ha c hc
      simp only [List.mem_singleton] at hc
      subst hc
      obtain ⟨e, he, rfl⟩ := List.mem_map.1 ha
      have := hbl e he
      omega
    · intro e he
      simp only [Array.toList_push, List.mem_append, List.mem_singleton] at he
      rcases he with he | rfl
      · have := hbl e he; omega
      · simp
  | some j =>
    rw [hi] at hso hf
    have hj : j < M.length := (List.findIdx?_eq_some_iff_getElem.1 hi).1
    have hjk : M[j].1 = k := by have := (List.findIdx?_eq_some_iff_getElem.1 hi).2.1; simpa using this
    obtain ⟨e, he, hek, hev⟩ := reads_at hr hj
    have he' : es[j]? = some e := by simpa using he
    rw [hjk] at hek
    refine ⟨.map (es.modify j fun e => { e with key := key k, val := val v }) clock, ?_, _, _, setMap_same hlt, ?_, put_keys M k v hn, ?_, ?_⟩
    · rw [Instr.mapUpdate, Sem.run_bind, run_underlying hm, Result.andThen_ok]
      simp only [Sem.run_bind, run_getObj hb, Result.andThen_ok, K.chk, hf, Option.bind_some, he, Option.map_some, he', Option.getD_some, hek, Instr.keyThatStays, K.bits, if_true, Sem.run_pure, run_setObj hb]
    · have hput : put M k v = M.modify j (fun _ => (k, v)) := by
        rw [map_modify (fun _ => (k, v)) (fun p => decide (p.1 = k)) M j hi (count_nodup M k hn)]
        simp [put, hso]
      rw [hput]
      unfold Reads at hr ⊢
      apply List.ext_getElem?
      intro n
      have hn' := congrArg (fun l => l[n]?) hr
      simp only [List.getElem?_map] at hn'
      simp only [Array.toList_modify, List.getElem?_map, List.getElem?_modify]
      by_cases hnj : j = n
      · subst hnj
        simp [he', hj]
      · simp only [hnj, if_false, Option.map_eq_map, Option.map_id_fun', id_eq]
        exact hn'
    · rw [Array.toList_modify]
      have : (es.toList.modify j fun e => { e with key := key k, val := val v }).map (·.born) = es.toList.map (·.born) := by
        apply List.ext_getElem?
        intro n
        simp only [List.getElem?_map, List.getElem?_modify]
        by_cases hnj : j = n
        · subst hnj; cases es.toList[j]? <;> simp
        · simp [hnj]
      rw [this]; exact hbn
    · intro e1 he1
      rw [Array.toList_modify] at he1
      obtain ⟨n, hn1⟩ := List.mem_iff_getElem?.1 he1
      rw [List.getElem?_modify] at hn1
      cases hen : es.toList[n]? with
      | none => rw [hen] at hn1; simp at hn1
      | some e0 =>
        rw [hen] at hn1
        have h0 := hbl e0 (List.mem_of_getElem? hen)
        by_cases hnj : j = n
        · simp only [hnj, if_true, Option.map_eq_map, Option.map_some, Option.some.injEq] at hn1
          subst hn1
          exact h0
        · simp only [hnj, if_false, Option.map_eq_map, Option.map_some, Option.some.injEq] at hn1
          subst hn1
          exact h0

theorem erase_map {α β : Type} (f : α → β) : ∀ (l : List α) (j : Nat), (l.eraseIdx j).map f = (l.map f).eraseIdx j
  | [], _ => rfl
  | _ :: _, 0 => rfl
  | x :: l, j + 1 => by simp only [List.eraseIdx_cons_succ, List.map_cons, erase_map f l j]
theorem del_erase (M : List (κ × ν)) (k : κ) (h : (M.map (·.1)).Nodup) : del M k = match M.findIdx? (fun p => decide (p.1 = k)) with | some j => M.eraseIdx j | none => M := by
  induction M with
  | nil => rfl
  | cons p M ih =>
    simp only [List.map_cons, List.nodup_cons] at h
    have ih := ih h.2
    by_cases hk : p.1 = k
    · subst hk
      have hz : ∀ q ∈ M, decide (q.1 ≠ p.1) = true := by
        intro q hq
        simp only [ne_eq, decide_not, Bool.not_eq_true', decide_eq_false_iff_not]
        intro e
        exact h.1 (List.mem_map.2 ⟨q, hq, e⟩)
      simp only [del, List.filter_cons, List.findIdx?_cons]
      simp only [ne_eq, not_true, decide_false, Bool.false_eq_true, if_false, decide_true, if_true, List.eraseIdx_zero, List.tail_cons]
      exact List.filter_eq_self.2 hz
    · simp only [del, List.filter_cons, List.findIdx?_cons, hk] at ih ⊢
      simp only [ne_eq, not_false_eq_true, decide_true, if_true, decide_false, Bool.false_eq_true, if_false, hk]
      rw [ih]
      cases M.findIdx? (fun p => decide (p.1 = k)) <;> simp

theorem Tab.drop {w : World} {b : Nat} {M : List (κ × ν)} (h : Tab key val w b M) (K : KeyOK P kt key) {mt et kt' ty : TypeId} (hm : P.underlying mt = some (.map kt et)) (k : κ) :
    ∃ o, (Builtin.delete_ #[mt, kt'] ty #[.map (some b), key k]).run P w = .ok (.tuple #[]) (setMap w b o) ∧ Tab key val (setMap w b o) b (del M k) ∧
      (∀ es clock, w.heap[b]? = some (.map es clock) → ∃ es', o = .map es' clock ∧ ∀ e, e ∈ es'.toList → e ∈ es.toList) := by
  obtain ⟨es, clock, hb, hr, hn, hbn, hbl⟩ := h
  have hlt : b < w.heap.size := (Array.getElem?_eq_some_iff.1 hb).1
  have hf := run_findKey K w k hr
  have hd := del_erase M k hn
  have hdn : ((del M k).map (·.1)).Nodup := hn.sublist ((List.filter_sublist).map _)
  have hun : ∀ es' clock', w.heap[b]? = some (.map es' clock') → es' = es ∧ clock' = clock := fun es' clock' h' => by
    rw [hb] at h'; cases h'; exact ⟨rfl, rfl⟩
  cases hi : M.findIdx? (fun p => decide (p.1 = k)) with
  | none =>
    rw [hi] at hf hd
    simp only at hd
    refine ⟨.map es clock, ?_, ⟨_, _, setMap_same hlt, by rw [hd]; exact hr, hdn, hbn, hbl⟩, fun es' clock' h' => ?_⟩
    · simp [Builtin.delete_, Sem.run_bind, run_underlying hm, run_getObj hb, K.chk, hf, run_setObj hb]
    · obtain ⟨rfl, rfl⟩ := hun es' clock' h'
      exact ⟨_, rfl, fun _ h => h⟩
  | some j =>
    rw [hi] at hf hd
    simp only at hd
    have hj : j < M.length := (List.findIdx?_eq_some_iff_getElem.1 hi).1
    obtain ⟨e, he, hek, hev⟩ := reads_at hr hj
    have he' : es[j]? = some e := by simpa using he
    have hjs : j < es.size := (Array.getElem?_eq_some_iff.1 he').1
    have hsub : (es.eraseIdxIfInBounds j).toList = es.toList.eraseIdx j := by
      simp [Array.eraseIdxIfInBounds, hjs]
    refine ⟨.map (es.eraseIdxIfInBounds j) clock, ?_, ⟨_, _, setMap_same hlt, ?_, hdn, ?_, ?_⟩, fun es' clock' h' => ?_⟩
    · simp [Builtin.delete_, Sem.run_bind, run_underlying hm, run_getObj hb, K.chk, hf, run_setObj hb, he']
    · rw [hd, hsub]
      unfold Reads at hr ⊢
      rw [erase_map, hr, ← erase_map]
    · rw [hsub]
      exact hbn.sublist ((List.eraseIdx_sublist es.toList j).map _)
    · intro e1 he1
      rw [hsub] at he1
      exact hbl e1 (List.mem_of_mem_eraseIdx he1)
    · obtain ⟨rfl, rfl⟩ := hun es' clock' h'
      exact ⟨_, rfl, fun e1 he1 => by rw [hsub] at he1; exact List.mem_of_mem_eraseIdx he1⟩

theorem get_put (M : List (κ × ν)) (k k' : κ) (v : ν) : get (put M k v) k' = if k' = k then some v else get M k' := by
  unfold put
  split
  · rename_i hs
    induction M with
    | nil => simp [get] at hs
    | cons p M ih =>
      by_cases hpk : p.1 = k
      · subst hpk
        by_cases hk : k' = p.1
        · subst hk; simp [get]
        · have hk' : ¬ p.1 = k' := fun e => hk e.symm
          simp only [get, List.map_cons, if_true, List.find?_cons, hk', decide_false, hk, if_false]
          congr 1
          have hM : ∀ (M : List (κ × ν)), (M.map (fun q => if q.1 = p.1 then (p.1, v) else q)).find? (fun q => decide (q.1 = k')) = M.find? (fun q => decide (q.1 = k')) := by
            intro M
            induction M with
            | nil => rfl
            | cons q M ihM =>
              by_cases hq : q.1 = p.1
              · simp only [List.map_cons, hq, if_true, List.find?_cons, hk', decide_false, ihM]
              · simp only [List.map_cons, hq, if_false, List.find?_cons, ihM]
          exact hM M
      · have hs' : (get M k).isSome = true := by simpa [get, List.find?_cons, hpk] using hs
        have ih := ih hs'
        unfold get at ih ⊢
        by_cases hk : p.1 = k'
        · have : ¬ k' = k := fun e => hpk (hk.trans e)
          simp [hk, this]
        · simp only [List.map_cons, hpk, if_false, List.find?_cons, hk, decide_false]
          exact ih
  · rename_i hs
    unfold get at hs ⊢
    rw [List.find?_append]
    by_cases hk : k' = k
    · subst hk
      have : M.find? (fun p => decide (p.1 = k')) = none := by
        cases hf : M.find? (fun p => decide (p.1 = k')) with
        | none => rfl
        | some q => rw [hf] at hs; simp at hs
      simp [this]
    · have hk' : ¬ k = k' := fun e => hk e.symm
      simp [hk, hk']

theorem get_del (M : List (κ × ν)) (k k' : κ) : get (del M k) k' = if k' = k then none else get M k' := by
  unfold get del
  rw [List.find?_filter]
  by_cases hk : k' = k
  · subst hk
    simp
  · simp only [hk, if_false]
    congr 2
    funext p
    by_cases hp : p.1 = k'
    · simp [hp, hk]
    · simp [hp]

theorem KeyOK.inj (K : KeyOK P kt key) {a b : κ} (h : key a = key b) : a = b := by
  have h1 := K.eq default a b
  rw [h, K.eq default b b] at h1
  simpa using h1.symm

/-- A map that is ranged over: M is what it holds, S are the keys that have come. -/
def Rng (key : κ → Value) (val : ν → Value) (w : World) (b r : Nat) (M : List (κ × ν)) (S : List κ) : Prop :=
  ∃ es clock seen, w.heap[b]? = some (.map es clock) ∧ Reads key val es.toList M ∧ (M.map (·.1)).Nodup ∧ (es.toList.map (·.born)).Nodup ∧ (∀ e ∈ es.toList, e.born < clock) ∧
    w.heap[r]? = some (.mapIter (some b) clock seen clock) ∧ ∀ e ∈ es.toList, (e.born ∈ seen ↔ ∃ k ∈ S, e.key = key k)

omit [DecidableEq κ] in
theorem Rng.tab {w : World} {b r : Nat} {M : List (κ × ν)} {S : List κ} (h : Rng key val w b r M S) : Tab key val w b M := by
  obtain ⟨es, clock, seen, h1, h2, h3, h4, h5, _⟩ := h
  exact ⟨es, clock, h1, h2, h3, h4, h5⟩
omit [DecidableEq κ] in
theorem Rng.ne {w : World} {b r : Nat} {M : List (κ × ν)} {S : List κ} (h : Rng key val w b r M S) : r ≠ b := by
  obtain ⟨es, clock, seen, h1, _, _, _, _, h6, _⟩ := h
  rintro rfl
  rw [h1] at h6; cases h6
omit [DecidableEq κ] in
theorem Rng.lt {w : World} {b r : Nat} {M : List (κ × ν)} {S : List κ} (h : Rng key val w b r M S) : b < w.heap.size ∧ r < w.heap.size := by
  obtain ⟨es, clock, seen, h1, _, _, _, _, h6, _⟩ := h
  exact ⟨(Array.getElem?_eq_some_iff.1 h1).1, (Array.getElem?_eq_some_iff.1 h6).1⟩
omit [DecidableEq κ] in
theorem Rng.same {w w' : World} {b r : Nat} {M : List (κ × ν)} {S : List κ} (h : Rng key val w b r M S) (hb : w'.heap[b]? = w.heap[b]?) (hr : w'.heap[r]? = w.heap[r]?) : Rng key val w' b r M S := by
  obtain ⟨es, clock, seen, h1, h2, h3, h4, h5, h6, h7⟩ := h
  exact ⟨es, clock, seen, hb.trans h1, h2, h3, h4, h5, hr.trans h6, h7⟩
omit [DecidableEq κ] in
theorem Rng.later {w : World} {b r : Nat} {M : List (κ × ν)} {S : List κ} (h : Rng key val w b r M S) (x : Later w) : Rng key val x.w b r M S :=
  h.same (x.le.block b h.lt.1) (x.le.block r h.lt.2)

omit [DecidableEq κ] in
theorem Tab.range {w : World} {b : Nat} {M : List (κ × ν)} (h : Tab key val w b M) {mt et : TypeId} (hm : P.underlying mt = some (.map kt et)) :
    ∃ ob, (Instr.range mt (.map (some b))).run P w = .ok (.pointer (some ⟨w.heap.size, 0, none⟩)) (w.alloc ob) ∧ Rng key val (w.alloc ob) b w.heap.size M [] := by
  obtain ⟨es, clock, hb, h2, h3, h4, h5⟩ := h
  have hlt : b < w.heap.size := (Array.getElem?_eq_some_iff.1 hb).1
  refine ⟨.mapIter (some b) clock #[] clock, ?_, es, clock, #[], ?_, h2, h3, h4, h5, heap_alloc_new w _, by simp⟩
  · simp [Instr.range, Sem.run_bind, run_underlying hm, run_getObj hb, newObj, Sem.run]
  · exact (Below.heap_alloc w _ b hlt).trans hb

theorem run_choose_next (w : World) (m : Nat) (hm : 0 < m) : ∃ c n, c < m ∧ (choose (.mapNext m)).run P w = .ok c (w.drewN n) := by
  by_cases h1 : m ≤ 1
  · exact ⟨0, 0, hm, by simp [choose, Sem.run, Question.forced, h1, World.drewN_zero]⟩
  · refine ⟨w.tape w.drawn (.mapNext m) % m, 1, Nat.mod_lt _ hm, ?_⟩
    simp [choose, Sem.run, Question.forced, h1, Question.cut, World.drewN]

omit [DecidableEq κ] in
theorem mem_reads {es : List MapEntry} {M : List (κ × ν)} (h : Reads key val es M) {p : κ × ν} (hp : p ∈ M) : ∃ e ∈ es, e.key = key p.1 ∧ e.val = val p.2 := by
  have : (key p.1, val p.2) ∈ es.map (fun e => (e.key, e.val)) := by rw [h]; exact List.mem_map.2 ⟨p, hp, rfl⟩
  obtain ⟨e, he, h2⟩ := List.mem_map.1 this
  simp only [Prod.mk.injEq] at h2
  exact ⟨e, he, h2⟩
omit [DecidableEq κ] in
theorem reads_mem {es : List MapEntry} {M : List (κ × ν)} (h : Reads key val es M) {e : MapEntry} (he : e ∈ es) : ∃ p ∈ M, e.key = key p.1 ∧ e.val = val p.2 := by
  have : (e.key, e.val) ∈ M.map (fun p => (key p.1, val p.2)) := by rw [← h]; exact List.mem_map.2 ⟨e, he, rfl⟩
  obtain ⟨p, hp, h2⟩ := List.mem_map.1 this
  simp only [Prod.mk.injEq] at h2
  exact ⟨p, hp, h2.1.symm, h2.2.symm⟩

theorem nodup_inj {α : Type} {l : List α} (h : l.Nodup) {i j : Nat} (hi : i < l.length) (hj : j < l.length) (e : l[i] = l[j]) : i = j := by
  rcases Nat.lt_trichotomy i j with h1 | h1 | h1
  · exact absurd e (List.pairwise_iff_getElem.1 h i j hi hj h1)
  · exact h1
  · exact absurd e.symm (List.pairwise_iff_getElem.1 h j i hj hi h1)
theorem reads_keys {es : List MapEntry} {M : List (κ × ν)} (K : KeyOK P kt key) (h : Reads key val es M) (hn : (M.map (·.1)).Nodup) {e e' : MapEntry} (he : e ∈ es) (he' : e' ∈ es) (hk : e.key = e'.key) : e.born = e'.born := by
  have hkeys : es.map (·.key) = (M.map (·.1)).map key := by
    have := congrArg (fun l => l.map Prod.fst) h
    simpa [List.map_map, Function.comp_def] using this
  have hnk : (es.map (·.key)).Nodup := by
    rw [hkeys]
    exact List.Pairwise.map key (fun a b hab hk => hab (K.inj hk)) hn
  obtain ⟨i, hi, rfl⟩ := List.mem_iff_getElem.1 he
  obtain ⟨j, hj, rfl⟩ := List.mem_iff_getElem.1 he'
  have : i = j := nodup_inj hnk (i := i) (j := j) (by simpa using hi) (by simpa using hj) (by simpa using hk)
  subst this
  rfl

/-- The next round of a range over a map. -/
theorem Rng.next (K : KeyOK P kt key) {w : World} {b r : Nat} {M : List (κ × ν)} {S : List κ} (h : Rng key val w b r M S) (ty : TypeId) :
    ((∀ p ∈ M, p.1 ∈ S) ∧ (Instr.next (.pointer (some ⟨r, 0, none⟩)) false ty).run P w = .ok (.tuple #[.bool false]) w) ∨
    (∃ p ∈ M, p.1 ∉ S ∧ ∃ o n, (Instr.next (.pointer (some ⟨r, 0, none⟩)) false ty).run P w = .ok (.tuple #[.bool true, key p.1, val p.2]) (setMap (w.drewN n) r o) ∧
      Rng key val (setMap (w.drewN n) r o) b r M (p.1 :: S) ∧ (Instr.entry (.pointer (some ⟨r, 0, none⟩))).run P (setMap (w.drewN n) r o) = .ok (.tuple #[key p.1, val p.2]) (setMap (w.drewN n) r o)) := by
  have hne := h.ne
  have hlt := h.lt
  obtain ⟨es, clock, seen, h1, h2, h3, h4, h5, h6, h7⟩ := h
  obtain ⟨L, hL⟩ : ∃ L, es.filter (fun e => !seen.contains e.born) = L := ⟨_, rfl⟩
  have hmem : ∀ e, e ∈ L ↔ e ∈ es.toList ∧ e.born ∉ seen := by
    intro e
    rw [← hL]
    simp
  have hold : L.filter (fun e => decide (e.born < clock)) = L := by
    apply Array.ext'
    rw [Array.toList_filter]
    exact List.filter_eq_self.2 fun e he => by
      have := h5 e ((hmem e).1 (Array.mem_toList_iff.1 he)).1
      simpa using this
  have hnew : L.filter (fun e => decide (e.born ≥ clock)) = #[] := by
    apply Array.ext'
    rw [Array.toList_filter]
    exact List.filter_eq_nil_iff.2 fun e he => by
      have := h5 e ((hmem e).1 (Array.mem_toList_iff.1 he)).1
      simp; omega
  have hall : (!seen.isEmpty && !es.isEmpty && es.all (fun e => decide (e.born ≥ clock))) = false := by
    cases hes : es.toList with
    | nil => have : es = #[] := by apply Array.ext'; simpa using hes
             subst this; simp
    | cons e l =>
      have he : e ∈ es.toList := by rw [hes]; simp
      have := h5 e he
      have hf : es.all (fun e => decide (e.born ≥ clock)) = false := by
        rw [← Array.all_toList, hes]
        have hd : decide (e.born ≥ clock) = false := by simp; omega
        simp [hd]
      rw [hf]; simp
  have g1 : (getObj r).run P w = .ok (.mapIter (some b) clock seen clock) w := by simp [getObj, Sem.run, h6]
  have start : (Instr.next (.pointer (some ⟨r, 0, none⟩)) false ty).run P w =
      ((choose (.mapNext ((if L.isEmpty then #[none] else #[]) ++ (L ++ #[]).map some).size)).run P w).andThen fun c w1 =>
        (match ((if L.isEmpty then #[none] else #[]) ++ (L ++ #[]).map some)[c]? with
          | some (some e) => do
            setObj r (.mapIter (some b) clock (seen.push e.born) clock)
            pure (.tuple #[.bool true, e.key, e.val])
          | some none => pure (.tuple #[.bool false])
          | none => stuck "Next: no such candidate" : Sem Value).run P w1 := by
    simp only [Instr.next, Sem.run_bind, g1, Result.andThen_ok, run_getObj h1, hall, Bool.false_eq_true, if_false, hL, hold, hnew]
    rfl
  by_cases hemp : L = #[]
  · subst hemp
    refine .inl ⟨fun p hp => ?_, ?_⟩
    · obtain ⟨e, he, hk, _⟩ := mem_reads h2 hp
      have hs : e.born ∈ seen := by
        by_cases hse : e.born ∈ seen
        · exact hse
        · exact absurd ((hmem e).2 ⟨he, hse⟩) (by simp)
      obtain ⟨k, hk1, hk2⟩ := (h7 e he).1 hs
      rw [K.inj (hk.symm.trans hk2)]; exact hk1
    · rw [start]
      simp [choose, Sem.run, Question.forced]
  · have hsz : 0 < L.size := Array.size_pos_iff.2 hemp
    have hie : L.isEmpty = false := by simpa using hemp
    obtain ⟨c, n, hc, hrun⟩ := run_choose_next (P := P) w L.size hsz
    have hcm : L[c] ∈ L := Array.getElem_mem hc
    obtain ⟨hes, hns⟩ := (hmem _).1 hcm
    obtain ⟨p, hp, hk, hv⟩ := reads_mem h2 hes
    have hrlt : r < (w.drewN n).heap.size := hlt.2
    have hpS : p.1 ∉ S := fun hs => hns ((h7 _ hes).2 ⟨p.1, hs, hk⟩)
    refine .inr ⟨p, hp, hpS, .mapIter (some b) clock (seen.push (L[c]).born) clock, n, ?_, ?_, ?_⟩
    · rw [start]
      simp only [hie, Bool.false_eq_true, if_false, Array.append_empty, Array.empty_append, Array.size_map, hrun, Result.andThen_ok]
      simp [hc, setObj, Sem.run, h6, setMap, hk, hv]
    · refine ⟨es, clock, seen.push (L[c]).born, ?_, h2, h3, h4, h5, setMap_same hrlt, ?_⟩
      · rw [setMap_other (Ne.symm hne)]; exact h1
      · intro e he
        rw [Array.mem_push, h7 e he]
        constructor
        · rintro (⟨k, hk1, hk2⟩ | hb)
          · exact ⟨k, by simp [hk1], hk2⟩
          · refine ⟨p.1, by simp, ?_⟩
            have : e = L[c] := by
              obtain ⟨i, hi, rfl⟩ := List.mem_iff_getElem.1 he
              obtain ⟨j, hj, hje⟩ := List.mem_iff_getElem.1 hes
              rw [← hje] at hb ⊢
              have : i = j := nodup_inj h4 (i := i) (j := j) (by simpa using hi) (by simpa using hj) (by simpa using hb)
              subst this; rfl
            rw [this]; exact hk
        · rintro ⟨k, hk1, hk2⟩
          simp only [List.mem_cons] at hk1
          rcases hk1 with rfl | hk1
          · exact .inr (reads_keys K h2 h3 he hes (hk2.trans hk.symm))
          · exact .inl ⟨k, hk1, hk2⟩
    · have g2 : (getObj r).run P (setMap (w.drewN n) r (.mapIter (some b) clock (seen.push (L[c]).born) clock)) = .ok (.mapIter (some b) clock (seen.push (L[c]).born) clock) (setMap (w.drewN n) r (.mapIter (some b) clock (seen.push (L[c]).born) clock)) := by
        simp [getObj, Sem.run, setMap_same hrlt]
      have h1' : (setMap (w.drewN n) r (.mapIter (some b) clock (seen.push (L[c]).born) clock)).heap[b]? = some (.map es clock) := by
        rw [setMap_other (Ne.symm hne)]; exact h1
      have hfind : es.find? (fun e => e.born == (L[c]).born) = some L[c] := by
        rw [← Array.find?_toList]
        cases hf : es.toList.find? (fun e => e.born == (L[c]).born) with
        | none =>
          have := List.find?_eq_none.1 hf _ hes
          simp at this
        | some e =>
          have hb := List.find?_some hf
          have he := List.mem_of_find?_eq_some hf
          simp only [beq_iff_eq] at hb
          obtain ⟨i, hi, rfl⟩ := List.mem_iff_getElem.1 he
          obtain ⟨j, hj, hje⟩ := List.mem_iff_getElem.1 hes
          rw [← hje] at hb ⊢
          have : i = j := nodup_inj h4 (i := i) (j := j) (by simpa using hi) (by simpa using hj) (by simpa using hb)
          subst this; rfl
      simp only [Instr.entry, Sem.run_bind, g2, Result.andThen_ok, Array.back?_push, run_getObj h1', bne_self_eq_false, Bool.false_eq_true, if_false, hfind, hk, hv]
      rfl

theorem Rng.drop {w : World} {b r : Nat} {M : List (κ × ν)} {S : List κ} (h : Rng key val w b r M S) (K : KeyOK P kt key) {mt et kt' ty : TypeId} (hm : P.underlying mt = some (.map kt et)) (k : κ) :
    ∃ o, (Builtin.delete_ #[mt, kt'] ty #[.map (some b), key k]).run P w = .ok (.tuple #[]) (setMap w b o) ∧ Rng key val (setMap w b o) b r (del M k) S := by
  have hne := h.ne
  have hlt := h.lt
  have ht := h.tab
  obtain ⟨es, clock, seen, h1, h2, h3, h4, h5, h6, h7⟩ := h
  obtain ⟨o, ho, hT, hsub⟩ := ht.drop K (kt' := kt') (ty := ty) hm k
  refine ⟨o, ho, ?_⟩
  obtain ⟨es', rfl, hs⟩ := hsub es clock h1
  obtain ⟨es2, clock2, t1, t2, t3, t4, t5⟩ := hT
  rw [setMap_same hlt.1] at t1
  cases t1
  exact ⟨es', clock, seen, setMap_same hlt.1, t2, t3, t4, t5, by rw [setMap_other hne]; exact h6, fun e he => h7 e (hs e he)⟩
end
end Tb
end Go.Proofs.Ytdhdpbnlhnodjaa
