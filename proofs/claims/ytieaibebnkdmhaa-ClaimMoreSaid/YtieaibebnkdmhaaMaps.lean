/-
  Maps whose keys and values are plain data, read as lists of pairs: the law of look-up, store and delete, over any program.
-/
import Derived.Test.YtieaibebnkdmhaaMix2
namespace Go.Proofs.Ytieaibebnkdmhaa
open Go.RowKit
namespace Tb

/-- Keys that the program tells apart as their data are. -/
structure KeyOK {κ : Type} [DecidableEq κ] (P : Program) (kt : TypeId) (key : κ → Value) : Prop where
  eq : ∀ (w : World) (a b : κ), (Op.equal kt (key a) (key b)).run P w = .ok (decide (a = b)) w
  chk : ∀ (w : World) (e : Bool) (a : κ), (Instr.checkKey e 10000 kt (key a)).run P w = .ok () w
  desc : ∃ d, P.underlying kt = some d ∧ ∀ a b, Instr.sameNow d (key a) (key b) = none
  bits : ∀ a, Instr.sameBits 10000 (key a) (key a) = true

section
variable {κ ν : Type} [DecidableEq κ] {P : Program} {kt : TypeId} {key : κ → Value} {val : ν → Value}

def get (M : List (κ × ν)) (k : κ) : Option ν := (M.find? (fun p => decide (p.1 = k))).map (·.2)
def put (M : List (κ × ν)) (k : κ) (v : ν) : List (κ × ν) := if (get M k).isSome then M.map (fun p => if p.1 = k then (k, v) else p) else M ++ [(k, v)]
def del (M : List (κ × ν)) (k : κ) : List (κ × ν) := M.filter (fun p => decide (p.1 ≠ k))

/-- What an array of entries holds. -/
def Reads (key : κ → Value) (val : ν → Value) (es : List MapEntry) (M : List (κ × ν)) : Prop := es.map (fun e => (e.key, e.val)) = M.map (fun p => (key p.1, val p.2))

theorem run_find (K : KeyOK P kt key) (w : World) (k : κ) : ∀ (es : List MapEntry) (M : List (κ × ν)) (i : Nat), Reads key val es M →
    (Instr.findAsking kt (key k) es i).run P w = .ok ((M.findIdx? (fun p => decide (p.1 = k))).bind fun j => (es[j]?).map fun e => (i + j, e.val)) w
  | [], M, i, h => by
    cases M with
    | nil => simp [Instr.findAsking]
    | cons p M => simp [Reads] at h
  | e :: es, M, i, h => by
    cases M with
    | nil => simp [Reads] at h
    | cons p M =>
      simp only [Reads, List.map_cons, List.cons.injEq, Prod.mk.injEq] at h
      obtain ⟨⟨h1, h2⟩, h3⟩ := h
      have ih := run_find K w k es M (i + 1) h3
      rw [Instr.findAsking, Sem.run_bind, h1, K.eq w k p.1, Result.andThen_ok]
      by_cases hk : p.1 = k
      · subst hk
        simp [List.findIdx?_cons]
      · have hk' : ¬ k = p.1 := fun e => hk e.symm
        simp only [hk', decide_false, Bool.false_eq_true, if_false, ih, List.findIdx?_cons, hk]
        cases M.findIdx? (fun p => decide (p.1 = k)) <;> simp [Nat.add_assoc, Nat.add_comm 1]

omit [DecidableEq κ] in
theorem reads_length {es : List MapEntry} {M : List (κ × ν)} (h : Reads key val es M) : es.length = M.length := by
  have := congrArg List.length h
  simpa using this

omit [DecidableEq κ] in
theorem reads_at {es : List MapEntry} {M : List (κ × ν)} (h : Reads key val es M) {j : Nat} (hj : j < M.length) : ∃ e, es[j]? = some e ∧ e.key = key M[j].1 ∧ e.val = val M[j].2 := by
  have hl : j < es.length := by rw [reads_length h]; exact hj
  have e := congrArg (fun l => l[j]?) h
  simp only [List.getElem?_map, List.getElem?_eq_getElem hl, List.getElem?_eq_getElem hj, Option.map_some, Option.some.injEq, Prod.mk.injEq] at e
  exact ⟨es[j], List.getElem?_eq_getElem hl, e.1, e.2⟩

theorem run_findKey (K : KeyOK P kt key) (w : World) (k : κ) {es : List MapEntry} {M : List (κ × ν)} (h : Reads key val es M) :
    (Instr.findKey kt (key k) es).run P w = .ok ((M.findIdx? (fun p => decide (p.1 = k))).bind fun j => (es[j]?).map fun e => (j, e.val)) w := by
  obtain ⟨d, hd, hn⟩ := K.desc
  have h0 := run_find K w k es M 0 h
  simp only [Nat.zero_add] at h0
  rw [Instr.findKey, Sem.run_bind, run_underlying hd, Result.andThen_ok]
  cases es with
  | nil =>
    have : M = [] := List.eq_nil_of_length_eq_zero (by have := reads_length h; simpa using this.symm)
    subst this
    simp [Instr.findNow]
  | cons e es =>
    cases M with
    | nil => simp [Reads] at h
    | cons p M =>
      have h' := h
      simp only [Reads, List.map_cons, List.cons.injEq, Prod.mk.injEq] at h'
      simp only [Instr.findNow, h'.1.1, hn]
      exact h0

theorem get_findIdx (M : List (κ × ν)) (k : κ) : get M k = (M.findIdx? (fun p => decide (p.1 = k))).bind fun j => (M[j]?).map (·.2) := by
  induction M with
  | nil => rfl
  | cons p M ih =>
    unfold get at ih ⊢
    by_cases h : p.1 = k
    · simp [List.findIdx?_cons, h]
    · simp only [List.find?_cons, List.findIdx?_cons, h, decide_false, Bool.false_eq_true, if_false, ih]
      cases M.findIdx? (fun p => decide (p.1 = k)) <;> simp

/-- A block is a map that reads as M. -/
def Tab (key : κ → Value) (val : ν → Value) (w : World) (b : Nat) (M : List (κ × ν)) : Prop :=
  ∃ es clock, w.heap[b]? = some (.map es clock) ∧ Reads key val es.toList M ∧ (M.map (·.1)).Nodup ∧ (es.toList.map (·.born)).Nodup ∧ ∀ e ∈ es.toList, e.born < clock

theorem run_getObj {w : World} {b : Nat} {es : Array MapEntry} {clock : Nat} (h : w.heap[b]? = some (.map es clock)) : (getObj b).run P w = .ok (.map es clock) w := by
  simp [getObj, Sem.run, h]

theorem Tab.look {w : World} {b : Nat} {M : List (κ × ν)} (h : Tab key val w b M) (K : KeyOK P kt key) {mt et : TypeId} (hm : P.underlying mt = some (.map kt et)) {z : Value}
    (hz : ∀ w, (zeroValue et).run P w = .ok z w) (k : κ) (ok : Bool) :
    (Instr.lookup mt (.map (some b)) (key k) ok).run P w = .ok (if ok then .tuple #[((get M k).map val).getD z, .bool (get M k).isSome] else ((get M k).map val).getD z) w := by
  obtain ⟨es, clock, hb, hr, _⟩ := h
  have hf := run_findKey K w k hr
  rw [Instr.lookup, Sem.run_bind, run_underlying hm, Result.andThen_ok]
  simp only [Sem.run_bind, run_getObj hb, Result.andThen_ok, Sem.run_pure, K.chk, hf, get_findIdx]
  cases hi : M.findIdx? (fun p => decide (p.1 = k)) with
  | none => simp [hz]
  | some j =>
    have hj : j < M.length := (List.findIdx?_eq_some_iff_getElem.1 hi).1
    obtain ⟨e, he, _, hv⟩ := reads_at hr hj
    have he' : es[j]? = some e := by simpa using he
    simp [he', hj, hv]

omit [DecidableEq κ] in
theorem Tab.later {w : World} {b : Nat} {M : List (κ × ν)} (h : Tab key val w b M) (x : Later w) : Tab key val x.w b M := by
  obtain ⟨es, clock, hb, r⟩ := h
  exact ⟨es, clock, by rw [x.le.block b (Array.getElem?_eq_some_iff.1 hb).1]; exact hb, r⟩
omit [DecidableEq κ] in
theorem Tab.lt {w : World} {b : Nat} {M : List (κ × ν)} (h : Tab key val w b M) : b < w.heap.size := by
  obtain ⟨es, clock, hb, r⟩ := h
  exact (Array.getElem?_eq_some_iff.1 hb).1
omit [DecidableEq κ] in
theorem Tab.nil (w : World) {b : Nat} (h : w.heap[b]? = some (.map #[] 0)) : Tab key val w b ([] : List (κ × ν)) := ⟨#[], 0, h, rfl, by simp, by simp, by simp⟩

/-- A world in which one block is another map. -/
def setMap (w : World) (b : Nat) (o : Obj) : World := { w with heap := w.heap.setIfInBounds b o }
theorem setMap_same {w : World} {b : Nat} {o : Obj} (h : b < w.heap.size) : (setMap w b o).heap[b]? = some o := by simp [setMap, h]
theorem setMap_other {w : World} {b k : Nat} {o : Obj} (h : k ≠ b) : (setMap w b o).heap[k]? = w.heap[k]? := by simp [setMap, Array.getElem?_setIfInBounds_ne (Ne.symm h)]
theorem setMap_size {w : World} {b : Nat} {o : Obj} : (setMap w b o).heap.size = w.heap.size := by simp [setMap]
theorem run_setObj {w : World} {b : Nat} {es : Array MapEntry} {clock : Nat} (h : w.heap[b]? = some (.map es clock)) (o : Obj) : (setObj b o).run P w = .ok () (setMap w b o) := by
  simp [setObj, Sem.run, h, setMap]

theorem get_isSome (M : List (κ × ν)) (k : κ) : (get M k).isSome = (M.findIdx? (fun p => decide (p.1 = k))).isSome := by
  rw [get_findIdx]
  cases hi : M.findIdx? (fun p => decide (p.1 = k)) with
  | none => rfl
  | some j =>
    have hj : j < M.length := (List.findIdx?_eq_some_iff_getElem.1 hi).1
    simp [hj]

theorem map_modify {α : Type} (f : α → α) (p : α → Bool) : ∀ (l : List α) (j : Nat), l.findIdx? p = some j → (l.map p).count true ≤ 1 → l.modify j f = l.map (fun x => if p x then f x else x)
  | [], _, h, _ => by simp at h
  | x :: l, j, h, hc => by
    rw [List.findIdx?_cons] at h
    by_cases hp : p x = true
    · simp only [hp, if_true, Option.some.injEq] at h
      subst h
      have hz : ∀ y ∈ l, p y = false := by
        simp only [List.map_cons, hp, List.count_cons_self] at hc
        have : (l.map p).count true = 0 := by omega
        intro y hy
        have := List.count_eq_zero.1 this
        cases hpy : p y
        · rfl
        · exact absurd (hpy ▸ List.mem_map_of_mem hy) this
      simp only [List.modify_zero_cons, List.map_cons, hp, if_true, List.cons.injEq, true_and]
      conv => lhs; rw [← List.map_id l]
      exact List.map_congr_left fun y hy => by simp [hz y hy]
    · simp only [hp, Bool.false_eq_true, if_false, Option.map_eq_some_iff] at h
      obtain ⟨j', hj', rfl⟩ := h
      have hp' : p x = false := by simpa using hp
      simp only [List.modify_succ_cons, List.map_cons, hp', Bool.false_eq_true, if_false, List.cons.injEq, true_and]
      exact map_modify f p l j' hj' (by simpa [hp'] using hc)

theorem count_nodup (M : List (κ × ν)) (k : κ) (h : (M.map (·.1)).Nodup) : (M.map (fun p => decide (p.1 = k))).count true ≤ 1 := by
  have e : (M.map (fun p => decide (p.1 = k))).count true = (M.map (·.1)).count k := by
    induction M with
    | nil => rfl
    | cons p M ih =>
      simp only [List.map_cons, List.nodup_cons] at h
      simp only [List.map_cons, List.count_cons, ih h.2]
      by_cases hk : p.1 = k <;> simp [hk]
  rw [e]
  exact List.nodup_iff_count.1 h k

theorem put_keys (M : List (κ × ν)) (k : κ) (v : ν) (h : (M.map (·.1)).Nodup) : ((put M k v).map (·.1)).Nodup := by
  unfold put
  split
  · rw [List.map_map]
    have : ((fun x => x.1) ∘ fun p : κ × ν => if p.1 = k then (k, v) else p) = (fun p => p.1) := by
      funext p
      by_cases hk : p.1 = k <;> simp [hk]
    rw [this]; exact h
  · rename_i hn
    rw [List.map_append, List.nodup_append]
    refine ⟨h, by simp, ?_⟩
    intro a ha b hb
    simp only [List.map_cons, List.map_nil, List.mem_singleton] at hb
    subst hb
    rintro rfl
    apply hn
    obtain ⟨p, hp, rfl⟩ := List.mem_map.1 ha
    rw [get, Option.isSome_map, List.find?_isSome]
    exact ⟨p, hp, by simp⟩

theorem Tab.store {w : World} {b : Nat} {M : List (κ × ν)} (h : Tab key val w b M) (K : KeyOK P kt key) {mt et : TypeId} (hm : P.underlying mt = some (.map kt et)) (k : κ) (v : ν) :
    ∃ o, (Instr.mapUpdate mt (.map (some b)) (key k) (val v)).run P w = .ok () (setMap w b o) ∧ Tab key val (setMap w b o) b (put M k v) := by
  obtain ⟨es, clock, hb, hr, hn, hbn, hbl⟩ := h
  have hlt : b < w.heap.size := (Array.getElem?_eq_some_iff.1 hb).1
  have hf := run_findKey K w k hr
  have hso : (get M k).isSome = (M.findIdx? (fun p => decide (p.1 = k))).isSome := get_isSome M k
  cases hi : M.findIdx? (fun p => decide (p.1 = k)) with
  | none =>
    rw [hi] at hso hf
    refine ⟨.map (es.push { key := key k, val := val v, born := clock }) (clock + 1), ?_, _, _, setMap_same hlt, ?_, put_keys M k v hn, ?_, ?_⟩
    · rw [Instr.mapUpdate, Sem.run_bind, run_underlying hm, Result.andThen_ok]
      simp only [Sem.run_bind, run_getObj hb, Result.andThen_ok, K.chk, hf, Option.bind_none, run_setObj hb]
    · simp only [put, hso, Option.isSome_none, Bool.false_eq_true, if_false]
      simp only [Reads, Array.toList_push, List.map_append, List.map_cons, List.map_nil]
      rw [show es.toList.map (fun e => (e.key, e.val)) = M.map (fun p => (key p.1, val p.2)) from hr]
    · simp only [Array.toList_push, List.map_append, List.map_cons, List.map_nil, List.nodup_append]
      refine ⟨hbn, by simp, ?_⟩
      intro a ha c hc
      simp only [List.mem_singleton] at hc
      subst hc
      obtain ⟨e, he, rfl⟩ := List.mem_map.1 ha
      have := hbl e he
      omega
    · intro e he
      simp only [Array.toList_push, List.mem_append, List.mem_singleton] at he
      rcases he with he | rfl
      · have := hbl e he; omega
      · simp
  | some j =>
    rw [hi] at hso hf
    have hj : j < M.length := (List.findIdx?_eq_some_iff_getElem.1 hi).1
    have hjk : M[j].1 = k := by have := (List.findIdx?_eq_some_iff_getElem.1 hi).2.1; simpa using this
    obtain ⟨e, he, hek, hev⟩ := reads_at hr hj
    have he' : es[j]? = some e := by simpa using he
    rw [hjk] at hek
    refine ⟨.map (es.modify j fun e => { e with key := key k, val := val v }) clock, ?_, _, _, setMap_same hlt, ?_, put_keys M k v hn, ?_, ?_⟩
    · rw [Instr.mapUpdate, Sem.run_bind, run_underlying hm, Result.andThen_ok]
      simp only [Sem.run_bind, run_getObj hb, Result.andThen_ok, K.chk, hf, Option.bind_some, he, Option.map_some, he', Option.getD_some, hek, Instr.keyThatStays, K.bits, if_true, Sem.run_pure, run_setObj hb]
    · have hput : put M k v = M.modify j (fun _ => (k, v)) := by
        rw [map_modify (fun _ => (k, v)) (fun p => decide (p.1 = k)) M j hi (count_nodup M k hn)]
        simp [put, hso]
      rw [hput]
      unfold Reads at hr ⊢
      apply List.ext_getElem?
      intro n
      have hn' := congrArg (fun l => l[n]?) hr
      simp only [List.getElem?_map] at hn'
      simp only [Array.toList_modify, List.getElem?_map, List.getElem?_modify]
      by_cases hnj : j = n
      · subst hnj
        simp [he', hj]
      · simp only [hnj, if_false, Option.map_eq_map, Option.map_id_fun', id_eq]
        exact hn'
    · rw [Array.toList_modify]
      have : (es.toList.modify j fun e => { e with key := key k, val := val v }).map (·.born) = es.toList.map (·.born) := by
        apply List.ext_getElem?
        intro n
        simp only [List.getElem?_map, List.getElem?_modify]
        by_cases hnj : j = n
        · subst hnj; cases es.toList[j]? <;> simp
        · simp [hnj]
      rw [this]; exact hbn
    · intro e1 he1
      rw [Array.toList_modify] at he1
      obtain ⟨n, hn1⟩ := List.mem_iff_getElem?.1 he1
      rw [List.getElem?_modify] at hn1
      cases hen : es.toList[n]? with
      | none => rw [hen] at hn1; simp at hn1
      | some e0 =>
        rw [hen] at hn1
        have h0 := hbl e0 (List.mem_of_getElem? hen)
        by_cases hnj : j = n
        · simp only [hnj, if_true, Option.map_eq_map, Option.map_some, Option.some.injEq] at hn1
          subst hn1
          exact h0
        · simp only [hnj, if_false, Option.map_eq_map, Option.map_some, Option.some.injEq] at hn1
          subst hn1
          exact h0

theorem erase_map {α β : Type} (f : α → β) : ∀ (l : List α) (j : Nat), (l.eraseIdx j).map f = (l.map f).eraseIdx j
  | [], _ => rfl
  | _ :: _, 0 => rfl
  | x :: l, j + 1 => by simp only [List.eraseIdx_cons_succ, List.map_cons, erase_map f l j]
theorem del_erase (M : List (κ × ν)) (k : κ) (h : (M.map (·.1)).Nodup) : del M k = match M.findIdx? (fun p => decide (p.1 = k)) with | some j => M.eraseIdx j | none => M := by
  induction M with
  | nil => rfl
  | cons p M ih =>
    simp only [List.map_cons, List.nodup_cons] at h
    have ih := ih h.2
    by_cases hk : p.1 = k
    · subst hk
      have hz : ∀ q ∈ M, decide (q.1 ≠ p.1) = true := by
        intro q hq
        simp only [ne_eq, decide_not, Bool.not_eq_true', decide_eq_false_iff_not]
        intro e
        exact h.1 (List.mem_map.2 ⟨q, hq, e⟩)
      simp only [del, List.filter_cons, List.findIdx?_cons]
      simp only [ne_eq, not_true, decide_false, Bool.false_eq_true, if_false, decide_true, if_true, List.eraseIdx_zero, List.tail_cons]
      exact List.filter_eq_self.2 hz
    · simp only [del, List.filter_cons, List.findIdx?_cons, hk] at ih ⊢
      simp only [ne_eq, not_false_eq_true, decide_true, if_true, decide_false, Bool.false_eq_true, if_false, hk]
      rw [ih]
      cases M.findIdx? (fun p => decide (p.1 = k)) <;> simp

theorem Tab.drop {w : World} {b : Nat} {M : List (κ × ν)} (h : Tab key val w b M) (K : KeyOK P kt key) {mt et kt' ty : TypeId} (hm : P.underlying mt = some (.map kt et)) (k : κ) :
    ∃ o, (Builtin.delete_ #[mt, kt'] ty #[.map (some b), key k]).run P w = .ok (.tuple #[]) (setMap w b o) ∧ Tab key val (setMap w b o) b (del M k) ∧
      (∀ es clock, w.heap[b]? = some (.map es clock) → ∃ es', o = .map es' clock ∧ ∀ e, e ∈ es'.toList → e ∈ es.toList) := by
  obtain ⟨es, clock, hb, hr, hn, hbn, hbl⟩ := h
  have hlt : b < w.heap.size := (Array.getElem?_eq_some_iff.1 hb).1
  have hf := run_findKey K w k hr
  have hd := del_erase M k hn
  have hdn : ((del M k).map (·.1)).Nodup := hn.sublist ((List.filter_sublist).map _)
  have hun : ∀ es' clock', w.heap[b]? = some (.map es' clock') → es' = es ∧ clock' = clock := fun es' clock' h' => by
    rw [hb] at h'; cases h'; exact ⟨rfl, rfl⟩
  cases hi : M.findIdx? (fun p => decide (p.1 = k)) with
  | none =>
    rw [hi] at hf hd
    simp only at hd
    refine ⟨.map es clock, ?_, ⟨_, _, setMap_same hlt, by rw [hd]; exact hr, hdn, hbn, hbl⟩, fun es' clock' h' => ?_⟩
    · simp [Builtin.delete_, Sem.run_bind, run_underlying hm, run_getObj hb, K.chk, hf, run_setObj hb]
    · obtain ⟨rfl, rfl⟩ := hun es' clock' h'
      exact ⟨_, rfl, fun _ h => h⟩
  | some j =>
    rw [hi] at hf hd
    simp only at hd
    have hj : j < M.length := (List.findIdx?_eq_some_iff_getElem.1 hi).1
    obtain ⟨e, he, hek, hev⟩ := reads_at hr hj
    have he' : es[j]? = some e := by simpa using he
    have hjs : j < es.size := (Array.getElem?_eq_some_iff.1 he').1
    have hsub : (es.eraseIdxIfInBounds j).toList = es.toList.eraseIdx j := by
      simp [Array.eraseIdxIfInBounds, hjs]
    refine ⟨.map (es.eraseIdxIfInBounds j) clock, ?_, ⟨_, _, setMap_same hlt, ?_, hdn, ?_, ?_⟩, fun es' clock' h' => ?_⟩
    · simp [Builtin.delete_, Sem.run_bind, run_underlying hm, run_getObj hb, K.chk, hf, run_setObj hb, he']
    · rw [hd, hsub]
      unfold Reads at hr ⊢
      rw [erase_map, hr, ← erase_map]
    · rw [hsub]
      exact hbn.sublist ((List.eraseIdx_sublist es.toList j).map _)
    · intro e1 he1
      rw [hsub] at he1
      exact hbl e1 (List.mem_of_mem_eraseIdx he1)
    · obtain ⟨rfl, rfl⟩ := hun es' clock' h'
      exact ⟨_, rfl, fun e1 he1 => by rw [hsub] at he1; exact List.mem_of_mem_eraseIdx he1⟩

theorem get_put (M : List (κ × ν)) (k k' : κ) (v : ν) : get (put M k v) k' = if k' = k then some v else get M k' := by
  unfold put
  split
  · rename_i hs
    induction M with
    | nil => simp [get] at hs
    | cons p M ih =>
      by_cases hpk : p.1 = k
      · subst hpk
        by_cases hk : k' = p.1
        · subst hk; simp [get]
        · have hk' : ¬ p.1 = k' := fun e => hk e.symm
          simp only [get, List.map_cons, if_true, List.find?_cons, hk', decide_false, hk, if_false]
          congr 1
          have hM : ∀ (M : List (κ × ν)), (M.map (fun q => if q.1 = p.1 then (p.1, v) else q)).find? (fun q => decide (q.1 = k')) = M.find? (fun q => decide (q.1 = k')) := by
            intro M
            induction M with
            | nil => rfl
            | cons q M ihM =>
              by_cases hq : q.1 = p.1
              · simp only [List.map_cons, hq, if_true, List.find?_cons, hk', decide_false, ihM]
              · simp only [List.map_cons, hq, if_false, List.find?_cons, ihM]
          exact hM M
      · have hs' : (get M k).isSome = true := by simpa [get, List.find?_cons, hpk] using hs
        have ih := ih hs'
        unfold get at ih ⊢
        by_cases hk : p.1 = k'
        · have : ¬ k' = k := fun e => hpk (hk.trans e)
          simp [hk, this]
        · simp only [List.map_cons, hpk, if_false, List.find?_cons, hk, decide_false]
          exact ih
  · rename_i hs
    unfold get at hs ⊢
    rw [List.find?_append]
    by_cases hk : k' = k
    · subst hk
      have : M.find? (fun p => decide (p.1 = k')) = none := by
        cases hf : M.find? (fun p => decide (p.1 = k')) with
        | none => rfl
        | some q => rw [hf] at hs; simp at hs
      simp [this]
    · have hk' : ¬ k = k' := fun e => hk e.symm
      simp [hk, hk']

theorem get_del (M : List (κ × ν)) (k k' : κ) : get (del M k) k' = if k' = k then none else get M k' := by
  unfold get del
  rw [List.find?_filter]
  by_cases hk : k' = k
  · subst hk
    simp
  · simp only [hk, if_false]
    congr 2
    funext p
    by_cases hp : p.1 = k'
    · simp [hp, hk]
    · simp [hp]

theorem KeyOK.inj (K : KeyOK P kt key) {a b : κ} (h : key a = key b) : a = b := by
  have h1 := K.eq default a b
  rw [h, K.eq default b b] at h1
  simpa using h1.symm

/-- A map that is ranged over: M is what it holds, S are the keys that have come. -/
def Rng (key : κ → Value) (val : ν → Value) (w : World) (b r : Nat) (M : List (κ × ν)) (S : List κ) : Prop :=
  ∃ es clock seen, w.heap[b]? = some (.map es clock) ∧ Reads key val es.toList M ∧ (M.map (·.1)).Nodup ∧ (es.toList.map (·.born)).Nodup ∧ (∀ e ∈ es.toList, e.born < clock) ∧
    w.heap[r]? = some (.mapIter (some b) clock seen clock) ∧ ∀ e ∈ es.toList, (e.born ∈ seen ↔ ∃ k ∈ S, e.key = key k)

omit [DecidableEq κ] in
theorem Rng.tab {w : World} {b r : Nat} {M : List (κ × ν)} {S : List κ} (h : Rng key val w b r M S) : Tab key val w b M := by
  obtain ⟨es, clock, seen, h1, h2, h3, h4, h5, _⟩ := h
  exact ⟨es, clock, h1, h2, h3, h4, h5⟩
omit [DecidableEq κ] in
theorem Rng.ne {w : World} {b r : Nat} {M : List (κ × ν)} {S : List κ} (h : Rng key val w b r M S) : r ≠ b := by
  obtain ⟨es, clock, seen, h1, _, _, _, _, h6, _⟩ := h
  rintro rfl
  rw [h1] at h6; cases h6
omit [DecidableEq κ] in
theorem Rng.lt {w : World} {b r : Nat} {M : List (κ × ν)} {S : List κ} (h : Rng key val w b r M S) : b < w.heap.size ∧ r < w.heap.size := by
  obtain ⟨es, clock, seen, h1, _, _, _, _, h6, _⟩ := h
  exact ⟨(Array.getElem?_eq_some_iff.1 h1).1, (Array.getElem?_eq_some_iff.1 h6).1⟩
omit [DecidableEq κ] in
theorem Rng.same {w w' : World} {b r : Nat} {M : List (κ × ν)} {S : List κ} (h : Rng key val w b r M S) (hb : w'.heap[b]? = w.heap[b]?) (hr : w'.heap[r]? = w.heap[r]?) : Rng key val w' b r M S := by
  obtain ⟨es, clock, seen, h1, h2, h3, h4, h5, h6, h7⟩ := h
  exact ⟨es, clock, seen, hb.trans h1, h2, h3, h4, h5, hr.trans h6, h7⟩
omit [DecidableEq κ] in
theorem Rng.later {w : World} {b r : Nat} {M : List (κ × ν)} {S : List κ} (h : Rng key val w b r M S) (x : Later w) : Rng key val x.w b r M S :=
  h.same (x.le.block b h.lt.1) (x.le.block r h.lt.2)

omit [DecidableEq κ] in
theorem Tab.range {w : World} {b : Nat} {M : List (κ × ν)} (h : Tab key val w b M) {mt et : TypeId} (hm : P.underlying mt = some (.map kt et)) :
    ∃ ob, (Instr.range mt (.map (some b))).run P w = .ok (.pointer (some ⟨w.heap.size, 0, none⟩)) (w.alloc ob) ∧ Rng key val (w.alloc ob) b w.heap.size M [] := by
  obtain ⟨es, clock, hb, h2, h3, h4, h5⟩ := h
  have hlt : b < w.heap.size := (Array.getElem?_eq_some_iff.1 hb).1
  refine ⟨.mapIter (some b) clock #[] clock, ?_, es, clock, #[], ?_, h2, h3, h4, h5, heap_alloc_new w _, by simp⟩
  · simp [Instr.range, Sem.run_bind, run_underlying hm, run_getObj hb, newObj, Sem.run]
  · exact (Below.heap_alloc w _ b hlt).trans hb

theorem run_choose_next (w : World) (m : Nat) (hm : 0 < m) : ∃ c n, c < m ∧ (choose (.mapNext m)).run P w = .ok c (w.drewN n) := by
  by_cases h1 : m ≤ 1
  · exact ⟨0, 0, hm, by simp [choose, Sem.run, Question.forced, h1, World.drewN_zero]⟩
  · refine ⟨w.tape w.drawn (.mapNext m) % m, 1, Nat.mod_lt _ hm, ?_⟩
    simp [choose, Sem.run, Question.forced, h1, Question.cut, World.drewN]

omit [DecidableEq κ] in
theorem mem_reads {es : List MapEntry} {M : List (κ × ν)} (h : Reads key val es M) {p : κ × ν} (hp : p ∈ M) : ∃ e ∈ es, e.key = key p.1 ∧ e.val = val p.2 := by
  have : (key p.1, val p.2) ∈ es.map (fun e => (e.key, e.val)) := by rw [h]; exact List.mem_map.2 ⟨p, hp, rfl⟩
  obtain ⟨e, he, h2⟩ := List.mem_map.1 this
  simp only [Prod.mk.injEq] at h2
  exact ⟨e, he, h2⟩
omit [DecidableEq κ] in
theorem reads_mem {es : List MapEntry} {M : List (κ × ν)} (h : Reads key val es M) {e : MapEntry} (he : e ∈ es) : ∃ p ∈ M, e.key = key p.1 ∧ e.val = val p.2 := by
  have : (e.key, e.val) ∈ M.map (fun p => (key p.1, val p.2)) := by rw [← h]; exact List.mem_map.2 ⟨e, he, rfl⟩
  obtain ⟨p, hp, h2⟩ := List.mem_map.1 this
  simp only [Prod.mk.injEq] at h2
  exact ⟨p, hp, h2.1.symm, h2.2.symm⟩

theorem nodup_inj {α : Type} {l : List α} (h : l.Nodup) {i j : Nat} (hi : i < l.length) (hj : j < l.length) (e : l[i] = l[j]) : i = j := by
  rcases Nat.lt_trichotomy i j with h1 | h1 | h1
  · exact absurd e (List.pairwise_iff_getElem.1 h i j hi hj h1)
  · exact h1
  · exact absurd e.symm (List.pairwise_iff_getElem.1 h j i hj hi h1)
theorem reads_keys {es : List MapEntry} {M : List (κ × ν)} (K : KeyOK P kt key) (h : Reads key val es M) (hn : (M.map (·.1)).Nodup) {e e' : MapEntry} (he : e ∈ es) (he' : e' ∈ es) (hk : e.key = e'.key) : e.born = e'.born := by
  have hkeys : es.map (·.key) = (M.map (·.1)).map key := by
    have := congrArg (fun l => l.map Prod.fst) h
    simpa [List.map_map, Function.comp_def] using this
  have hnk : (es.map (·.key)).Nodup := by
    rw [hkeys]
    exact List.Pairwise.map key (fun a b hab hk => hab (K.inj hk)) hn
  obtain ⟨i, hi, rfl⟩ := List.mem_iff_getElem.1 he
  obtain ⟨j, hj, rfl⟩ := List.mem_iff_getElem.1 he'
  have : i = j := nodup_inj hnk (i := i) (j := j) (by simpa using hi) (by simpa using hj) (by simpa using hk)
  subst this
  rfl

/-- The next round of a range over a map. -/
theorem Rng.next (K : KeyOK P kt key) {w : World} {b r : Nat} {M : List (κ × ν)} {S : List κ} (h : Rng key val w b r M S) (ty : TypeId) :
    ((∀ p ∈ M, p.1 ∈ S) ∧ (Instr.next (.pointer (some ⟨r, 0, none⟩)) false ty).run P w = .ok (.tuple #[.bool false]) w) ∨
    (∃ p ∈ M, p.1 ∉ S ∧ ∃ o n, (Instr.next (.pointer (some ⟨r, 0, none⟩)) false ty).run P w = .ok (.tuple #[.bool true, key p.1, val p.2]) (setMap (w.drewN n) r o) ∧
      Rng key val (setMap (w.drewN n) r o) b r M (p.1 :: S) ∧ (Instr.entry (.pointer (some ⟨r, 0, none⟩))).run P (setMap (w.drewN n) r o) = .ok (.tuple #[key p.1, val p.2]) (setMap (w.drewN n) r o)) := by
  have hne := h.ne
  have hlt := h.lt
  obtain ⟨es, clock, seen, h1, h2, h3, h4, h5, h6, h7⟩ := h
  obtain ⟨L, hL⟩ : ∃ L, es.filter (fun e => !seen.contains e.born) = L := ⟨_, rfl⟩
  have hmem : ∀ e, e ∈ L ↔ e ∈ es.toList ∧ e.born ∉ seen := by
    intro e
    rw [← hL]
    simp
  have hold : L.filter (fun e => decide (e.born < clock)) = L := by
    apply Array.ext'
    rw [Array.toList_filter]
    exact List.filter_eq_self.2 fun e he => by
      have := h5 e ((hmem e).1 (Array.mem_toList_iff.1 he)).1
      simpa using this
  have hnew : L.filter (fun e => decide (e.born ≥ clock)) = #[] := by
    apply Array.ext'
    rw [Array.toList_filter]
    exact List.filter_eq_nil_iff.2 fun e he => by
      have := h5 e ((hmem e).1 (Array.mem_toList_iff.1 he)).1
      simp; omega
  have hall : (!seen.isEmpty && !es.isEmpty && es.all (fun e => decide (e.born ≥ clock))) = false := by
    cases hes : es.toList with
    | nil => have : es = #[] := by apply Array.ext'; simpa using hes
             subst this; simp
    | cons e l =>
      have he : e ∈ es.toList := by rw [hes]; simp
      have := h5 e he
      have hf : es.all (fun e => decide (e.born ≥ clock)) = false := by
        rw [← Array.all_toList, hes]
        have hd : decide (e.born ≥ clock) = false := by simp; omega
        simp [hd]
      rw [hf]; simp
  have g1 : (getObj r).run P w = .ok (.mapIter (some b) clock seen clock) w := by simp [getObj, Sem.run, h6]
  have start : (Instr.next (.pointer (some ⟨r, 0, none⟩)) false ty).run P w =
      ((choose (.mapNext ((if L.isEmpty then #[none] else #[]) ++ (L ++ #[]).map some).size)).run P w).andThen fun c w1 =>
        (match ((if L.isEmpty then #[none] else #[]) ++ (L ++ #[]).map some)[c]? with
          | some (some e) => do
            setObj r (.mapIter (some b) clock (seen.push e.born) clock)
            pure (.tuple #[.bool true, e.key, e.val])
          | some none => pure (.tuple #[.bool false])
          | none => stuck "Next: no such candidate" : Sem Value).run P w1 := by
    simp only [Instr.next, Sem.run_bind, g1, Result.andThen_ok, run_getObj h1, hall, Bool.false_eq_true, if_false, hL, hold, hnew]
    rfl
  by_cases hemp : L = #[]
  · subst hemp
    refine .inl ⟨fun p hp => ?_, ?_⟩
    · obtain ⟨e, he, hk, _⟩ := mem_reads h2 hp
      have hs : e.born ∈ seen := by
        by_cases hse : e.born ∈ seen
        · exact hse
        · exact absurd ((hmem e).2 ⟨he, hse⟩) (by simp)
      obtain ⟨k, hk1, hk2⟩ := (h7 e he).1 hs
      rw [K.inj (hk.symm.trans hk2)]; exact hk1
    · rw [start]
      simp [choose, Sem.run, Question.forced]
  · have hsz : 0 < L.size := Array.size_pos_iff.2 hemp
    have hie : L.isEmpty = false := by simpa using hemp
    obtain ⟨c, n, hc, hrun⟩ := run_choose_next (P := P) w L.size hsz
    have hcm : L[c] ∈ L := Array.getElem_mem hc
    obtain ⟨hes, hns⟩ := (hmem _).1 hcm
    obtain ⟨p, hp, hk, hv⟩ := reads_mem h2 hes
    have hrlt : r < (w.drewN n).heap.size := hlt.2
    have hpS : p.1 ∉ S := fun hs => hns ((h7 _ hes).2 ⟨p.1, hs, hk⟩)
    refine .inr ⟨p, hp, hpS, .mapIter (some b) clock (seen.push (L[c]).born) clock, n, ?_, ?_, ?_⟩
    · rw [start]
      simp only [hie, Bool.false_eq_true, if_false, Array.append_empty, Array.empty_append, Array.size_map, hrun, Result.andThen_ok]
      simp [hc, setObj, Sem.run, h6, setMap, hk, hv]
    · refine ⟨es, clock, seen.push (L[c]).born, ?_, h2, h3, h4, h5, setMap_same hrlt, ?_⟩
      · rw [setMap_other (Ne.symm hne)]; exact h1
      · intro e he
        rw [Array.mem_push, h7 e he]
        constructor
        · rintro (⟨k, hk1, hk2⟩ | hb)
          · exact ⟨k, by simp [hk1], hk2⟩
          · refine ⟨p.1, by simp, ?_⟩
            have : e = L[c] := by
              obtain ⟨i, hi, rfl⟩ := List.mem_iff_getElem.1 he
              obtain ⟨j, hj, hje⟩ := List.mem_iff_getElem.1 hes
              rw [← hje] at hb ⊢
              have : i = j := nodup_inj h4 (i := i) (j := j) (by simpa using hi) (by simpa using hj) (by simpa using hb)
              subst this; rfl
            rw [this]; exact hk
        · rintro ⟨k, hk1, hk2⟩
          simp only [List.mem_cons] at hk1
          rcases hk1 with rfl | hk1
          · exact .inr (reads_keys K h2 h3 he hes (hk2.trans hk.symm))
          · exact .inl ⟨k, hk1, hk2⟩
    · have g2 : (getObj r).run P (setMap (w.drewN n) r (.mapIter (some b) clock (seen.push (L[c]).born) clock)) = .ok (.mapIter (some b) clock (seen.push (L[c]).born) clock) (setMap (w.drewN n) r (.mapIter (some b) clock (seen.push (L[c]).born) clock)) := by
        simp [getObj, Sem.run, setMap_same hrlt]
      have h1' : (setMap (w.drewN n) r (.mapIter (some b) clock (seen.push (L[c]).born) clock)).heap[b]? = some (.map es clock) := by
        rw [setMap_other (Ne.symm hne)]; exact h1
      have hfind : es.find? (fun e => e.born == (L[c]).born) = some L[c] := by
        rw [← Array.find?_toList]
        cases hf : es.toList.find? (fun e => e.born == (L[c]).born) with
        | none =>
          have := List.find?_eq_none.1 hf _ hes
          simp at this
        | some e =>
          have hb := List.find?_some hf
          have he := List.mem_of_find?_eq_some hf
          simp only [beq_iff_eq] at hb
          obtain ⟨i, hi, rfl⟩ := List.mem_iff_getElem.1 he
          obtain ⟨j, hj, hje⟩ := List.mem_iff_getElem.1 hes
          rw [← hje] at hb ⊢
          have : i = j := nodup_inj h4 (i := i) (j := j) (by simpa using hi) (by simpa using hj) (by simpa using hb)
          subst this; rfl
      simp only [Instr.entry, Sem.run_bind, g2, Result.andThen_ok, Array.back?_push, run_getObj h1', bne_self_eq_false, Bool.false_eq_true, if_false, hfind, hk, hv]
      rfl

theorem Rng.drop {w : World} {b r : Nat} {M : List (κ × ν)} {S : List κ} (h : Rng key val w b r M S) (K : KeyOK P kt key) {mt et kt' ty : TypeId} (hm : P.underlying mt = some (.map kt et)) (k : κ) :
    ∃ o, (Builtin.delete_ #[mt, kt'] ty #[.map (some b), key k]).run P w = .ok (.tuple #[]) (setMap w b o) ∧ Rng key val (setMap w b o) b r (del M k) S := by
  have hne := h.ne
  have hlt := h.lt
  have ht := h.tab
  obtain ⟨es, clock, seen, h1, h2, h3, h4, h5, h6, h7⟩ := h
  obtain ⟨o, ho, hT, hsub⟩ := ht.drop K (kt' := kt') (ty := ty) hm k
  refine ⟨o, ho, ?_⟩
  obtain ⟨es', rfl, hs⟩ := hsub es clock h1
  obtain ⟨es2, clock2, t1, t2, t3, t4, t5⟩ := hT
  rw [setMap_same hlt.1] at t1
  cases t1
  exact ⟨es', clock, seen, setMap_same hlt.1, t2, t3, t4, t5, by rw [setMap_other hne]; exact h6, fun e he => h7 e (hs e he)⟩
end
end Tb
end Go.Proofs.Ytieaibebnkdmhaa
