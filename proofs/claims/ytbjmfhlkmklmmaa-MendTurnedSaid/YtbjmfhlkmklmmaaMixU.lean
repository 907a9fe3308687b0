import Derived.Test.YtbjmfhlkmklmmaaKMix
/-  Regions that draw their order, once more: new blocks are told apart. -/
namespace Go.Proofs.Ytbjmfhlkmklmmaa
open Go.RowKit
namespace MixU
open Mix
section
variable {P : Program} {ops : Array Oper}
def cons (b : Nat) (U : Nat → Prop) (n : Nat) : Prop := n = b ∨ U n
def none0 : Nat → Prop := fun _ => False
theorem cons_comm (b c : Nat) (U : Nat → Prop) : cons b (cons c U) = cons c (cons b U) := funext fun n => propext ⟨fun h => by
    rcases h with h | h | h
    · exact .inr (.inl h)
    · exact .inl h
    · exact .inr (.inr h), fun h => by
    rcases h with h | h | h
    · exact .inr (.inl h)
    · exact .inl h
    · exact .inr (.inr h)⟩
def Good (P : Program) (ops : Array Oper) (W0 : World) (cls : Nat → Cls) (Q : Act → World → Prop) : (Nat → Prop) → List Nat → Act → World → Prop
  | _, [], a, w => ∀ x : Later w, Q a x.w
  | U, i :: rest, a, w => ∀ o, ops[i]? = some o →
      (Region.wanted o (yielded ops a.tmps) = true ∧ cls i = .loud ∧ ∀ x : Later w, o.wp P a x.w (fun a' w' => (∃ y : Later x.w, w' = y.w) ∧ Good P ops W0 cls Q U rest a' w') F3) ∨
      ((Region.wanted o (yielded ops a.tmps) = true → cls i = .val) ∧ ∃ v, YieldsIf P ops (C0 W0) o v a ∧ Good P ops W0 cls Q U rest (a.put o.dst v) w) ∨
      (Region.wanted o (yielded ops a.tmps) = true ∧ cls i = .new ∧ ∃ mk ob, AllocAs P o a mk ob ∧
        ∀ (b : Nat) (x : Later w), W0.heap.size ≤ b → ¬ U b → x.w.heap[b]? = some ob → Good P ops W0 cls Q (cons b U) rest (a.put o.dst (mk b)) x.w) ∨
      (Region.wanted o (yielded ops a.tmps) = true ∧ cls i = .last ∧ (∀ j ∈ rest, cls j = .last) ∧ ∀ x : Later w, o.wp P a x.w (fun a' w' => Good P ops W0 cls Q U rest a' w') F3)

variable {W0 : World} {cls : Nat → Cls} {Q : Act → World → Prop}

theorem Good.later : ∀ {U : Nat → Prop} {l : List Nat} {a : Act} {w : World}, Good P ops W0 cls Q U l a w → ∀ x : Later w, Good P ops W0 cls Q U l a x.w
  | _, [], _, _, h, x => fun y => h (x.step y)
  | _, i :: rest, a, w, h, x => fun o ho => by
    rcases h o ho with ⟨h1, h2, h3⟩ | ⟨h1, v, h2, h3⟩ | ⟨h1, h2, mk, ob, h3, h4⟩ | ⟨h1, h2, h3, h4⟩
    · exact .inl ⟨h1, h2, fun y => h3 (x.step y)⟩
    · exact .inr (.inl ⟨h1, v, h2, h3.later x⟩)
    · exact .inr (.inr (.inl ⟨h1, h2, mk, ob, h3, fun b y hb hu hy => h4 b (x.step y) hb hu hy⟩))
    · exact .inr (.inr (.inr ⟨h1, h2, h3, fun y => h4 (x.step y)⟩))

/-- What is pulled ahead of the rest. -/
def Pulled (P : Program) (ops : Array Oper) (W0 : World) (cls : Nat → Cls) (Q : Act → World → Prop) (U : Nat → Prop) (i : Nat) (o : Oper) (l : List Nat) (a : Act) (w : World) : Prop :=
  (Region.wanted o (yielded ops a.tmps) = true ∧ cls i = .loud ∧ ∀ x : Later w, o.wp P a x.w (fun a' w' => (∃ y : Later x.w, w' = y.w) ∧ Good P ops W0 cls Q U l a' w') F3) ∨
  ((Region.wanted o (yielded ops a.tmps) = true → cls i = .val) ∧ ∃ v, YieldsIf P ops (C0 W0) o v a ∧ Good P ops W0 cls Q U l (a.put o.dst v) w) ∨
  (Region.wanted o (yielded ops a.tmps) = true ∧ cls i = .new ∧ ∃ mk ob, AllocAs P o a mk ob ∧
    ∀ (b : Nat) (x : Later w), W0.heap.size ≤ b → ¬ U b → x.w.heap[b]? = some ob → Good P ops W0 cls Q (cons b U) l (a.put o.dst (mk b)) x.w) ∨
  (Region.wanted o (yielded ops a.tmps) = true ∧ cls i = .last ∧ (∀ j ∈ l, cls j = .last) ∧ ∀ x : Later w, o.wp P a x.w (fun a' w' => Good P ops W0 cls Q U l a' w') F3)

theorem pull {i : Nat} {oi : Oper} (hoi : ops[i]? = some oi) (hsel : ∀ (j : Nat) (o : Oper) cs b, ops[j]? = some o → o.op ≠ .select cs b) :
    ∀ (U : Nat → Prop) (l1 l2 : List Nat) (a : Act) (w : World), (l1 ≠ [] → C0 W0 w ∧ ∀ n, U n → n < w.heap.size) → (∀ k ∈ l1, ∃ ok, ops[k]? = some ok ∧ ok.apart ops oi = true ∧ (cls k ≠ .val → cls i ≠ .loud) ∧ cls i ≠ .last) →
      Good P ops W0 cls Q U (l1 ++ i :: l2) a w → Pulled P ops W0 cls Q U i oi (l1 ++ l2) a w
  | _, [], l2, a, w, _, _, h => h oi hoi
  | U, k :: l1, l2, a, w, hw0, hap, h => by
    obtain ⟨hw, hu⟩ := hw0 (by simp)
    have hsi := fun cs b => hsel i oi cs b hoi
    obtain ⟨ok, hok, hapk, hcl, hla⟩ := hap k (by simp)
    have hsk := fun cs b => hsel k ok cs b hok
    obtain ⟨hA, hB, hC⟩ := Oper.apart_spec hapk
    -- hA: k's slot is not looked at by i; hB: other slots; hC: i's slot is not looked at by k
    have hB' : ∀ t, oi.dst = some t → ok.dst ≠ some t := fun t ht hk => hB t hk ht
    have ih := fun (U : Nat → Prop) (a : Act) (w : World) (hw : C0 W0 w) (hu : ∀ n, U n → n < w.heap.size) => pull hoi hsel U l1 l2 a w (fun _ => ⟨hw, hu⟩) (fun k' hk' => hap k' (by simp [hk']))
    have wi : ∀ (a : Act) u, Region.wanted oi (yielded ops (a.put ok.dst u).tmps) = Region.wanted oi (yielded ops a.tmps) := fun a u => wanted_put oi a ok.dst u hA
    have wk : ∀ (a : Act) u, Region.wanted ok (yielded ops (a.put oi.dst u).tmps) = Region.wanted ok (yielded ops a.tmps) := fun a u => wanted_put ok a oi.dst u hC
    rcases h ok hok with ⟨k1, k2, k3⟩ | ⟨k1, vk, k2, k3⟩ | ⟨k1, k2, mk, ob, k3, k4⟩ | ⟨_, _, k3, _⟩
    · -- k is loud
      have hil : cls i ≠ .loud := hcl (by rw [k2]; simp)
      obtain ⟨ds, u, w1, ⟨y1, hy1⟩, hg⟩ := wp_witness (k3 (Later.self w))
      have hw1 : C0 W0 w1 := by rw [hy1]; exact (hw.later (Later.self w)).later y1
      have hu1 : ∀ n, U n → n < w1.heap.size := fun n hn => by rw [hy1]; exact Nat.lt_of_lt_of_le (hu n hn) (Nat.le_trans (Later.self w).size y1.size)
      rcases ih U _ _ hw1 hu1 hg with ⟨_, i2, _⟩ | ⟨i1, v, i2, _⟩ | ⟨i1, i2, mk, ob, i3, _⟩ | ⟨_, i2, _⟩
      rotate_left 3
      · exact absurd i2 hla
      · exact absurd i2 hil
      · refine .inr (.inl ⟨fun hwn => i1 (by rw [wi]; exact hwn), v, ?_, ?_⟩)
        · exact (yieldsIf_put (a := { a with defers := ds }) hsi hA).1 i2
        · have hyi : YieldsIf P ops (C0 W0) oi v a := (yieldsIf_put (a := { a with defers := ds }) hsi hA).1 i2
          intro o ho
          obtain rfl : ok = o := Option.some.inj (hok.symm.trans ho)
          refine .inl ⟨by rw [wk]; exact k1, k2, fun x => wp_put_in hsk hC hB' ?_⟩
          refine wp_mono_act (k3 x) ?_
          rintro ds' u' w' ⟨⟨y, hy⟩, hg'⟩
          refine ⟨⟨y, hy⟩, ?_⟩
          have hw' : C0 W0 w' := by rw [hy]; exact (hw.later x).later y
          have hu' : ∀ n, U n → n < w'.heap.size := fun n hn => by rw [hy]; exact Nat.lt_of_lt_of_le (hu n hn) (Nat.le_trans x.size y.size)
          rcases ih U _ _ hw' hu' hg' with ⟨_, j2, _⟩ | ⟨j1, v', j2, j3⟩ | ⟨j1, j2, _⟩ | ⟨_, j2, _⟩
          rotate_left 3
          · exact absurd j2 hla
          · exact absurd j2 hil
          · have e : v = v' := yieldsIf_unique hyi ((yieldsIf_put (a := { a with defers := ds' }) hsi hA).1 j2)
            rw [e]; exact j3
          · rw [wi] at j1
            exact absurd (i1 (by rw [wi]; exact j1)) (by rw [j2]; simp)
      · refine .inr (.inr (.inl ⟨by rw [wi] at i1; exact i1, i2, mk, ob, (allocAs_put (a := { a with defers := ds }) hsi hA).1 i3, ?_⟩))
        have hai : AllocAs P oi a mk ob := (allocAs_put (a := { a with defers := ds }) hsi hA).1 i3
        intro b x hb hub hx o ho
        obtain rfl : ok = o := Option.some.inj (hok.symm.trans ho)
        refine .inl ⟨by rw [wk]; exact k1, k2, fun x2 => wp_put_in hsk hC hB' ?_⟩
        refine wp_mono_act (k3 (x.step x2)) ?_
        rintro ds' u' w' ⟨⟨y, hy⟩, hg'⟩
        refine ⟨⟨y, hy⟩, ?_⟩
        have hw' : C0 W0 w' := by rw [hy]; exact (hw.later (x.step x2)).later y
        have hbw : w'.heap[b]? = some ob := by
          have hlt : b < x.w.heap.size := (Array.getElem?_eq_some_iff.1 hx).1
          rw [hy]
          exact (y.le.block b (Nat.lt_of_lt_of_le hlt x2.size)).trans ((x2.le.block b hlt).trans hx)
        have hu' : ∀ n, U n → n < w'.heap.size := fun n hn => by rw [hy]; exact Nat.lt_of_lt_of_le (hu n hn) (Nat.le_trans (x.step x2).size y.size)
        rcases ih U _ _ hw' hu' hg' with ⟨_, j2, _⟩ | ⟨j1, v', j2, j3⟩ | ⟨j1, j2, mk', ob', j3, j4⟩ | ⟨_, j2, _⟩
        rotate_left 3
        · exact absurd j2 hla
        · exact absurd j2 hil
        · have hwn : Region.wanted oi (yielded ops a.tmps) = true := by rw [wi] at i1; exact i1
          exact absurd (j1 (by rw [wi]; exact hwn)) (by rw [i2]; simp)
        · obtain ⟨e1, e2⟩ := allocAs_unique hai ((allocAs_put (a := { a with defers := ds' }) hsi hA).1 j3)
          rw [e1 b]
          exact j4 b (Later.self _) hb hub (by rw [← e2]; exact hbw)
    · -- k yields a value
      rcases ih U _ _ hw hu k3 with ⟨i1, i2, i3⟩ | ⟨i1, v, i2, i3⟩ | ⟨i1, i2, mk, ob, i3, i4⟩ | ⟨_, i2, _⟩
      rotate_left 3
      · exact absurd i2 hla
      · refine .inl ⟨by rw [wi] at i1; exact i1, i2, fun x => ?_⟩
        refine wp_mono_act (wp_put_out hsi hA (fun t ht => hB t ht) (i3 x)) ?_
        rintro ds' u' w' ⟨hy, hg'⟩
        refine ⟨hy, fun o ho => ?_⟩
        obtain rfl : ok = o := Option.some.inj (hok.symm.trans ho)
        exact .inr (.inl ⟨fun hwn => k1 (by rw [wk] at hwn; exact hwn), vk, (yieldsIf_put (a := { a with defers := ds' }) hsk hC).2 k2, hg'⟩)
      · refine .inr (.inl ⟨fun hwn => i1 (by rw [wi]; exact hwn), v, (yieldsIf_put hsi hA).1 i2, fun o ho => ?_⟩)
        obtain rfl : ok = o := Option.some.inj (hok.symm.trans ho)
        refine .inr (.inl ⟨fun hwn => k1 (by rw [wk] at hwn; exact hwn), vk, (yieldsIf_put hsk hC).2 k2, ?_⟩)
        rw [← Act.put_comm a vk v hB]
        exact i3
      · refine .inr (.inr (.inl ⟨by rw [wi] at i1; exact i1, i2, mk, ob, (allocAs_put hsi hA).1 i3, fun b x hb hub hx o ho => ?_⟩))
        obtain rfl : ok = o := Option.some.inj (hok.symm.trans ho)
        refine .inr (.inl ⟨fun hwn => k1 (by rw [wk] at hwn; exact hwn), vk, (yieldsIf_put hsk hC).2 k2, ?_⟩)
        rw [← Act.put_comm a vk (mk b) hB]
        exact i4 b x hb hub hx
    · -- k makes a block
      have hcs : ∀ (b : Nat) (x : Later w), x.w.heap[b]? = some ob → ∀ n, cons b U n → n < x.w.heap.size := fun b x hx n hn => by
        rcases hn with rfl | hn
        · exact (Array.getElem?_eq_some_iff.1 hx).1
        · exact Nat.lt_of_lt_of_le (hu n hn) x.size
      have first := ih _ _ _ (hw.later (Later.new w ob)) (hcs _ (Later.new w ob) (heap_alloc_new w ob)) (k4 w.heap.size (Later.new w ob) hw.size (fun h => Nat.lt_irrefl _ (hu _ h)) (heap_alloc_new w ob))
      rcases first with ⟨i1, i2, _⟩ | ⟨i1, v, i2, _⟩ | ⟨i1, i2, mi, obi, i3, _⟩ | ⟨_, i2, _⟩
      rotate_left 3
      · exact absurd i2 hla
      · exact absurd i2 (hcl (by rw [k2]; simp))
      · have hyi : YieldsIf P ops (C0 W0) oi v a := (yieldsIf_put hsi hA).1 i2
        refine .inr (.inl ⟨fun hwn => i1 (by rw [wi]; exact hwn), v, hyi, fun o ho => ?_⟩)
        obtain rfl : ok = o := Option.some.inj (hok.symm.trans ho)
        refine .inr (.inr (.inl ⟨by rw [wk]; exact k1, k2, mk, ob, (allocAs_put hsk hC).2 k3, fun b x hb hub hx => ?_⟩))
        rcases ih _ _ _ (hw.later x) (hcs b x hx) (k4 b x hb hub hx) with ⟨j1, j2, _⟩ | ⟨j1, v', j2, j3⟩ | ⟨j1, j2, _⟩ | ⟨_, j2, _⟩
        rotate_left 3
        · exact absurd j2 hla
        · rw [wi] at j1
          exact absurd (i1 (by rw [wi]; exact j1)) (by rw [j2]; simp)
        · have e : v = v' := yieldsIf_unique hyi ((yieldsIf_put hsi hA).1 j2)
          rw [← Act.put_comm a (mk b) v hB, e]
          exact j3
        · rw [wi] at j1
          exact absurd (i1 (by rw [wi]; exact j1)) (by rw [j2]; simp)
      · have hai : AllocAs P oi a mi obi := (allocAs_put hsi hA).1 i3
        have hwn : Region.wanted oi (yielded ops a.tmps) = true := by rw [wi] at i1; exact i1
        refine .inr (.inr (.inl ⟨hwn, i2, mi, obi, hai, fun b x hb hub hx o ho => ?_⟩))
        obtain rfl : ok = o := Option.some.inj (hok.symm.trans ho)
        refine .inr (.inr (.inl ⟨by rw [wk]; exact k1, k2, mk, ob, (allocAs_put hsk hC).2 k3, fun b' x' hb' hub' hx' => ?_⟩))
        have hne : b' ≠ b := fun e => hub' (.inl e)
        rcases ih _ _ _ (hw.later (x.step x')) (hcs b' (x.step x') hx') (k4 b' (x.step x') hb' (fun h => hub' (.inr h)) hx') with ⟨_, j2, _⟩ | ⟨j1, _⟩ | ⟨j1, j2, mk', ob', j3, j4⟩ | ⟨_, j2, _⟩
        rotate_left 3
        · exact absurd j2 hla
        · rw [i2] at j2; cases j2
        · exact absurd (j1 (by rw [wi]; exact hwn)) (by rw [i2]; simp)
        · obtain ⟨e1, e2⟩ := allocAs_unique hai ((allocAs_put hsi hA).1 j3)
          rw [← Act.put_comm a (mk b') (mi b) hB, e1 b]
          rw [cons_comm b' b U]
          refine j4 b (Later.self _) hb (fun h => h.elim (fun e => hne e.symm) hub) ?_
          have hlt : b < x.w.heap.size := (Array.getElem?_eq_some_iff.1 hx).1
          rw [← e2, ← hx]
          exact x'.le.block b hlt
    · -- k is the last
      exact absurd (k3 i (by simp)) hla

theorem any_of_good {Q' : Exit → Act → World → Prop} (hs : Region.noSelect ops = true) (hE : edgesB ops = true) (hC : certB ops (Region.before ops) = true) :
    ∀ (n : Nat) (U : Nat → Prop) (rem : List Nat) (listed : Array Bool) (a : Act) (w : World), rem.length = n → ((∃ i ∈ rem, cls i ≠ .last) → C0 W0 w ∧ ∀ n, U n → n < w.heap.size) → listed.size = ops.size →
      rem.Pairwise (fun k i => sepB ops (Region.before ops) cls k i = true ∧ k ≠ i) → (∀ i, i ∈ rem ↔ i < ops.size ∧ listed.getD i true = false) →
      (∀ j o, ops[j]? = some o → listed.getD j true = true → ∀ e ∈ o.after, Region.binds .any e = true → listed.getD e.on true = true) →
      Good P ops W0 cls (fun a w => Q' .normal a w) U rem a w → wpAny P .any ops Q' n listed a w
  | 0, _, rem, listed, a, w, hn, _, _, _, hmem, _, hg => by
    obtain rfl : rem = [] := List.eq_nil_of_length_eq_zero hn
    refine ⟨?_, hg (Later.self w)⟩
    rw [List.eq_nil_iff_forall_not_mem]
    intro i hi
    obtain ⟨h0, o, ho, _⟩ := mem_ready.1 hi
    exact absurd ((hmem i).2 ⟨(Array.getElem?_eq_some_iff.1 ho).1, h0⟩) (by simp)
  | n + 1, U, rem, listed, a, w, hn, hw, hsz, hpw, hmem, hdown, hg => by
    refine ⟨fun hr => ?_, fun i hi => ?_⟩
    · exfalso
      -- the least of what is left may come up
      have key : ∀ m i, i < m → i ∈ rem → False := by
        intro m
        induction m with
        | zero => intro i h; exact absurd h (Nat.not_lt_zero _)
        | succ m ih =>
          intro i him hir
          obtain ⟨hi1, hi2⟩ := (hmem i).1 hir
          have hready : i ∈ Region.ready .any ops listed := by
            refine mem_ready.2 ⟨hi2, ops[i], by simp [hi1], fun e he hb => ?_⟩
            have hlt := edgesB_spec hE (i := i) (o := ops[i]) (by simp [hi1]) e he hb
            have hlt2 : e.on < listed.size := by rw [hsz]; omega
            cases hl : listed.getD e.on true
            · exact (ih e.on (by omega) ((hmem e.on).2 ⟨by omega, hl⟩)).elim
            · simpa [hlt2] using hl
          rw [hr] at hready
          cases hready
      match rem, hn with
      | i :: rest, _ => exact key (i + 1) i (by omega) (by simp)
    · obtain ⟨h0, oi, hoi, hdep⟩ := mem_ready.1 hi
      have hi1 : i < ops.size := (Array.getElem?_eq_some_iff.1 hoi).1
      have hdep' : ∀ e ∈ oi.after, Region.binds .any e = true → listed.getD e.on true = true := fun e he hb => by
        have hh := hdep e he hb
        have hlt := edgesB_spec hE hoi e he hb
        have hlt2 : e.on < listed.size := by rw [hsz]; omega
        simpa [hlt2] using hh
      obtain ⟨l1, l2, rfl⟩ := split_mem ((hmem i).2 ⟨hi1, h0⟩)
      have hap : ∀ k ∈ l1, ∃ ok, ops[k]? = some ok ∧ ok.apart ops oi = true ∧ (cls k ≠ .val → cls i ≠ .loud) ∧ cls i ≠ .last := by
        intro k hk
        obtain ⟨hk1, hk2⟩ := (hmem k).1 (by simp [hk])
        have hsep := ((List.pairwise_append.1 hpw).2.2 k hk i (by simp)).1
        refine ⟨ops[k], by simp [hk1], ?_⟩
        rw [sepB, Bool.or_eq_true] at hsep
        rcases hsep with hsep | hsep
        · have := cert_listed hE hC hdown (i + 1) i oi (by omega) hoi hdep' k hk1 hsep
          rw [hk2] at this
          cases this
        · simp only [hoi, hk1, getElem?_pos, Bool.and_eq_true, Bool.or_eq_true, beq_iff_eq, bne_iff_ne] at hsep
          exact ⟨hsep.1.1, fun hv => hsep.1.2.resolve_left hv, hsep.2⟩
      have hp := pull hoi (Region.noSelect_spec hs) U l1 l2 a w (fun hne => by
        obtain ⟨k, hk⟩ := List.exists_mem_of_ne_nil _ hne
        obtain ⟨_, _, _, _, h4⟩ := hap k hk
        exact hw ⟨i, by simp, h4⟩) hap hg
      have hpw' : (l1 ++ l2).Pairwise (fun k i => sepB ops (Region.before ops) cls k i = true ∧ k ≠ i) :=
        hpw.sublist (List.Sublist.append_left (List.sublist_cons_self i l2) l1)
      have hnot : i ∉ l1 ++ l2 := by
        intro hmi
        rcases List.mem_append.1 hmi with hm | hm
        · exact ((List.pairwise_append.1 hpw).2.2 i hm i (by simp)).2 rfl
        · exact ((List.pairwise_cons.1 (List.pairwise_append.1 hpw).2.1).1 i hm).2 rfl
      have hlen : (l1 ++ l2).length = n := by simp at hn ⊢; omega
      have hmem' : ∀ j, j ∈ l1 ++ l2 ↔ j < ops.size ∧ (listed.setIfInBounds i true).getD j true = false := by
        intro j
        by_cases hji : j = i
        · subst hji
          refine ⟨fun h => absurd h hnot, fun h => ?_⟩
          have hlt2 : j < listed.size := by rw [hsz]; exact hi1
          simp [hlt2] at h
        · have e : (listed.setIfInBounds i true).getD j true = listed.getD j true := getD_set_ne true (Ne.symm hji)
          rw [e, ← hmem j]
          simp [hji]
      have hdown' : ∀ j o, ops[j]? = some o → (listed.setIfInBounds i true).getD j true = true → ∀ e ∈ o.after, Region.binds .any e = true → (listed.setIfInBounds i true).getD e.on true = true := by
        intro j o ho hl e he hb
        have up : listed.getD e.on true = true → (listed.setIfInBounds i true).getD e.on true = true := fun h => by
          by_cases hei : i = e.on
          · subst hei
            have hlt2 : e.on < listed.size := by rw [hsz]; exact hi1
            simp [hlt2]
          · rw [getD_set_ne true hei]; exact h
        by_cases hji : i = j
        · subst hji
          obtain rfl : oi = o := Option.some.inj (hoi.symm.trans ho)
          exact up (hdep' e he hb)
        · rw [getD_set_ne true hji] at hl
          exact up (hdown j o ho hl e he hb)
      have next := fun (U : Nat → Prop) (a' : Act) (w' : World) (hw' : (∃ j ∈ l1 ++ l2, cls j ≠ .last) → C0 W0 w' ∧ ∀ n, U n → n < w'.heap.size) (hg' : Good P ops W0 cls (fun a w => Q' .normal a w) U (l1 ++ l2) a' w') =>
        any_of_good (Q' := Q') hs hE hC n U (l1 ++ l2) (listed.setIfInBounds i true) a' w' hlen hw' (by simpa using hsz) hpw' hmem' hdown' hg'
      unfold wpOp
      simp only [hoi]
      rcases hp with ⟨h1, h2, h3⟩ | ⟨h1, v, h2, h3⟩ | ⟨h1, h2, mk, ob, h3, h4⟩ | ⟨h1, h2, h3, h4⟩
      · have hw := hw ⟨i, by simp, by rw [h2]; simp⟩
        rw [if_pos h1]
        refine .inl ?_
        have hx := Oper.wp_mono (K' := wpAny P .any ops Q' n (listed.setIfInBounds i true)) (fun a' w' h => next U a' w' (fun _ => by obtain ⟨⟨y, hy⟩, _⟩ := h; rw [hy]; exact ⟨(hw.1.later (Later.self w)).later y, fun n hn => Nat.lt_of_lt_of_le (hw.2 n hn) (Nat.le_trans (Later.self w).size y.size)⟩) h.2) (h3 (Later.self w))
        exact wp_of_F3 hx
      · rcases h2 with ⟨hwn, hy⟩ | ⟨hwn, rfl⟩
        · have hw := hw ⟨i, by simp, by rw [h1 hwn]; simp⟩
          rw [if_pos hwn]
          refine .inl ?_
          simp only [Oper.wp, hy w hw.1, Oper.upon]
          exact next U _ _ (fun _ => hw) h3
        · rw [if_neg (by rw [hwn]; simp)]
          exact next U _ _ (fun ⟨j, hj, hc⟩ => hw ⟨j, by rcases List.mem_append.1 hj with h | h <;> simp [h], hc⟩) h3
      · have hw := hw ⟨i, by simp, by rw [h2]; simp⟩
        rw [if_pos h1]
        refine .inl ?_
        simp only [Oper.wp, h3 w, Oper.upon]
        exact next _ _ _ (fun _ => ⟨hw.1.later (Later.new w ob), fun n hn => by
          rcases hn with rfl | hn
          · exact (Array.getElem?_eq_some_iff.1 (heap_alloc_new w ob)).1
          · exact Nat.lt_of_lt_of_le (hw.2 n hn) (Later.new w ob).size⟩) (h4 w.heap.size (Later.new w ob) hw.1.size (fun h => Nat.lt_irrefl _ (hw.2 _ h)) (heap_alloc_new w ob))
      · rw [if_pos h1]
        refine .inl ?_
        have hx := Oper.wp_mono (K' := wpAny P .any ops Q' n (listed.setIfInBounds i true)) (fun a' w' h => next U a' w' (fun ⟨j, hj, hc⟩ => absurd (h3 j hj) hc) h) (h4 (Later.self w))
        exact wp_of_F3 hx

/-- **A region that draws its order, walked once.** -/
theorem region_mix {id : Nat} {Q' : Exit → Act → World → Prop} {a : Act} {w : World} {l : List Oper} (order : List Nat) (cls : Nat → Cls) (hm : P.follows .mixedOrders = true)
    (hB : mixB l.toArray order cls = true) (h : Good P l.toArray w cls (fun a w => Q' .normal a w) none0 order a w) : (Code.region id l.toArray true).wp P Q' a w := by
  simp only [mixB, Bool.and_eq_true] at hB
  obtain ⟨⟨⟨⟨⟨hs, hE⟩, hC⟩, hp⟩, hr⟩, ho⟩ := hB
  refine wp_region_any hm ?_
  have hlen : order.length = l.toArray.size := by
    have hnd : order.Nodup := (pairsB_spec hp).imp (fun h => h.2)
    have h1 : ∀ i, i ∈ order ↔ i ∈ List.range l.toArray.size := fun i => by
      rw [List.mem_range]
      rw [List.all_eq_true] at ho hr
      exact ⟨fun h => of_decide_eq_true (ho i h), fun h => by have := hr i (List.mem_range.2 h); simpa using this⟩
    have hperm := (List.perm_ext_iff_of_nodup hnd List.nodup_range).2 h1
    rw [hperm.length_eq, List.length_range]
  have := any_of_good (P := P) (W0 := w) (cls := cls) (Q' := Q') hs hE hC order.length none0 order (Array.replicate l.toArray.size false) a { w with drawn := w.drawn + 1 } rfl (fun _ => ⟨⟨Later.draw w, rfl⟩, fun _ h => h.elim⟩) (by simp) (pairsB_spec hp)
    (fun i => by
      rw [List.all_eq_true] at ho hr
      constructor
      · intro h
        have hlt := of_decide_eq_true (ho i h)
        exact ⟨hlt, by simp at hlt; simp [hlt]⟩
      · intro h
        have := hr i (List.mem_range.2 h.1)
        simpa using this)
    (fun j o hj hl => by
      have hlt : j < l.toArray.size := (Array.getElem?_eq_some_iff.1 hj).1
      simp at hlt
      simp [hlt] at hl)
    (h.later (Later.draw w))
  rw [hlen] at this
  exact this
end
section
variable {P : Program} {ops : Array Oper} {W0 : World} {cls : Nat → Cls} {Q : Act → World → Prop} {i : Nat} {a : Act} {w : World} {o : Oper}
/-- The same, of the operations themselves in the order of the text. -/
def GoodL (P : Program) (ops : Array Oper) (W0 : World) (cls : Nat → Cls) (Q : Act → World → Prop) : (Nat → Prop) → Nat → List Oper → Act → World → Prop
  | _, _, [], a, w => ∀ x : Later w, Q a x.w
  | U, i, o :: rest, a, w =>
      (Region.wanted o (yielded ops a.tmps) = true ∧ cls i = .loud ∧ ∀ x : Later w, o.wp P a x.w (fun a' w' => (∃ y : Later x.w, w' = y.w) ∧ GoodL P ops W0 cls Q U (i + 1) rest a' w') F3) ∨
      ((Region.wanted o (yielded ops a.tmps) = true → cls i = .val) ∧ ∃ v, YieldsIf P ops (C0 W0) o v a ∧ GoodL P ops W0 cls Q U (i + 1) rest (a.put o.dst v) w) ∨
      (Region.wanted o (yielded ops a.tmps) = true ∧ cls i = .new ∧ ∃ mk ob, AllocAs P o a mk ob ∧
        ∀ (b : Nat) (x : Later w), W0.heap.size ≤ b → ¬ U b → x.w.heap[b]? = some ob → GoodL P ops W0 cls Q (cons b U) (i + 1) rest (a.put o.dst (mk b)) x.w) ∨
      (Region.wanted o (yielded ops a.tmps) = true ∧ cls i = .last ∧ (∀ j, j < rest.length → cls (i + 1 + j) = .last) ∧ ∀ x : Later w, o.wp P a x.w (fun a' w' => GoodL P ops W0 cls Q U (i + 1) rest a' w') F3)

theorem good_of_goodL : ∀ (U : Nat → Prop) (l : List Oper) (k : Nat) (a : Act) (w : World), (∀ j, l[j]? = ops[k + j]?) → GoodL P ops W0 cls Q U k l a w → Good P ops W0 cls Q U (List.range' k l.length) a w
  | _, [], _, _, _, _, h => h
  | U, o :: l, k, a, w, hl, h => by
    have h0 : ops[k]? = some o := by simpa using (hl 0).symm
    have hl' : ∀ j, l[j]? = ops[k + 1 + j]? := fun j => by have := hl (j + 1); simpa [Nat.add_assoc, Nat.add_comm 1 j] using this
    have ih := fun U a w => good_of_goodL U l (k + 1) a w hl'
    rw [List.length_cons, List.range'_succ]
    intro o' ho'
    obtain rfl : o = o' := Option.some.inj (h0.symm.trans ho')
    rcases h with ⟨h1, h2, h3⟩ | ⟨h1, v, h2, h3⟩ | ⟨h1, h2, mk, ob, h3, h4⟩ | ⟨h1, h2, hl2, h3⟩
    · exact .inl ⟨h1, h2, fun x => Oper.wp_mono (fun a' w' hh => ⟨hh.1, ih U a' w' hh.2⟩) (h3 x)⟩
    · exact .inr (.inl ⟨h1, v, h2, ih U _ _ h3⟩)
    · exact .inr (.inr (.inl ⟨h1, h2, mk, ob, h3, fun b x hb hu hx => ih _ _ _ (h4 b x hb hu hx)⟩))
    · exact .inr (.inr (.inr ⟨h1, h2, fun j hj => by
        obtain ⟨q, hq, rfl⟩ := List.mem_range'.1 hj
        simpa using hl2 q hq, fun x => Oper.wp_mono (fun a' w' hh => ih U a' w' hh) (h3 x)⟩))

/-- **A region that draws its order, walked once, in the order of its text.** -/
theorem region_mixL {id : Nat} {Q' : Exit → Act → World → Prop} {a : Act} {w : World} {l : List Oper} (cls : Nat → Cls) (hm : P.follows .mixedOrders = true)
    (hB : mixB l.toArray (List.range' 0 l.length) cls = true) (h : GoodL P l.toArray w cls (fun a w => Q' .normal a w) none0 0 l a w) : (Code.region id l.toArray true).wp P Q' a w :=
  region_mix (List.range' 0 l.length) cls hm hB (good_of_goodL none0 l 0 a w (fun j => by simp) h)

variable {rest : List Oper} {U : Nat → Prop}
theorem skip (hw : Region.wanted o (yielded ops a.tmps) = false) (h : GoodL P ops W0 cls Q U (i + 1) rest (a.put o.dst undef) w) : GoodL P ops W0 cls Q U i (o :: rest) a w :=
  .inr (.inl ⟨fun h1 => (by rw [hw] at h1; cases h1), undef, .inr ⟨hw, rfl⟩, h⟩)

theorem val (hc : cls i = .val) (hv : valOp o.op = true) (hw : Region.wanted o (yielded ops a.tmps) = true)
    (h : ∀ K : Act → Prop, (∀ a', GoodL P ops W0 cls Q U (i + 1) rest a' w → K a') → o.quiet P a (fun w' => ∃ x : Later W0, w' = x.w) K) : GoodL P ops W0 cls Q U i (o :: rest) a w := by
  obtain ⟨v, h1, h2⟩ := h (fun a' => GoodL P ops W0 cls Q U (i + 1) rest a' w) (fun _ h => h)
  refine .inr (.inl ⟨fun _ => hc, v, .inl ⟨hw, fun w' hw' => ?_⟩, h2⟩)
  have h3 := h1 w' hw'
  unfold Oper.quietAt at h3
  cases hr : (execOp a.eval o).run P w' with
  | ok n w1 =>
    obtain ⟨u, rfl⟩ := valOp_run hv hr
    rw [hr] at h3
    simp only [Oper.quietUpon] at h3
    rw [h3.1, h3.2]
  | halt x w1 => rw [hr] at h3; exact h3.elim

theorem loud (hc : cls i = .loud) (hw : Region.wanted o (yielded ops a.tmps) = true)
    (h : ∀ (x : Later w) (K : Act → World → Prop), (∀ (a' : Act) (y : Later x.w), GoodL P ops W0 cls Q U (i + 1) rest a' y.w → K a' y.w) → o.wp P a x.w K F3) : GoodL P ops W0 cls Q U i (o :: rest) a w :=
  .inl ⟨hw, hc, fun x => h x _ (fun _ y hg => ⟨⟨y, rfl⟩, hg⟩)⟩

theorem new (hc : cls i = .new) (hw : Region.wanted o (yielded ops a.tmps) = true) (mk : Nat → Value) (ob : Obj) (hal : AllocAs P o a mk ob)
    (h : ∀ (b : Nat) (x : Later w), W0.heap.size ≤ b → ¬ U b → x.w.heap[b]? = some ob → GoodL P ops W0 cls Q (cons b U) (i + 1) rest (a.put o.dst (mk b)) x.w) : GoodL P ops W0 cls Q U i (o :: rest) a w :=
  .inr (.inr (.inl ⟨hw, hc, mk, ob, hal, h⟩))

theorem last (hc : cls i = .last) (hw : Region.wanted o (yielded ops a.tmps) = true)
    (h : ∀ (x : Later w) (K : Act → World → Prop), (∀ (a' : Act) (w' : World), GoodL P ops W0 cls Q U (i + 1) [] a' w' → K a' w') → o.wp P a x.w K F3) : GoodL P ops W0 cls Q U i [o] a w :=
  .inr (.inr (.inr ⟨hw, hc, fun _ hj => absurd hj (Nat.not_lt_zero _), fun x => h x _ (fun _ _ hg => hg)⟩))
/-- an operation that may change what was there: behind it come such alone -/
theorem lastR (hc : cls i = .last) (hw : Region.wanted o (yielded ops a.tmps) = true) (hr : ∀ j, j < rest.length → cls (i + 1 + j) = .last)
    (h : ∀ (x : Later w) (K : Act → World → Prop), (∀ (a' : Act) (w' : World), GoodL P ops W0 cls Q U (i + 1) rest a' w' → K a' w') → o.wp P a x.w K F3) : GoodL P ops W0 cls Q U i (o :: rest) a w :=
  .inr (.inr (.inr ⟨hw, hc, hr, fun x => h x _ (fun _ _ hg => hg)⟩))

theorem skipU {d : Tmp} (hw : Region.wanted o (yielded ops a.tmps) = false) (hd : o.dst = some d) (hu : a.tmps.getD d undef = undef) (h : GoodL P ops W0 cls Q U (i + 1) rest a w) : GoodL P ops W0 cls Q U i (o :: rest) a w :=
  skip hw (by rw [hd, put_undef hu]; exact h)
/-- There is one more. -/
theorem atCons (h : GoodL P ops W0 cls Q U i (o :: rest) a w) : GoodL P ops W0 cls Q U i (o :: rest) a w := h
/-- the kinds of operations, by three lists of numbers -/
theorem done (h : ∀ x : Later w, Q a x.w) : GoodL P ops W0 cls Q U i [] a w := h
end
end MixU
end Go.Proofs.Ytbjmfhlkmklmmaa
