import Derived.Test.YtpkgfkeekcgkcaaKA
import Derived.Test.YtpkgfkeekcgkcaaKB
import Derived.Deep.WholeRow
import Derived.Deep.MidRow
import Derived.Deep.OwnRows
import Derived.Laws.Rows
import Derived.Lib.SliceRun
import Derived.Carry
import Derived.Laws.Tables
import Derived.OrdersHeld
import Derived.RangeFuncRecord
import Derived.Test.YtpkgfkeekcgkcaaKD
/-
  Maps whose keys and values are plain data, read as lists of pairs: the law of look-up, store and delete, over any program.
-/
namespace Go.Proofs.Ytpkgfkeekcgkcaa
open Go.RowKit
namespace Tb

/-- Keys that the program tells apart as their data are. -/
structure KeyOK {κ : Type} [DecidableEq κ] (P : Program) (kt : TypeId) (key : κ → Value) : Prop where
  eq : ∀ (w : World) (a b : κ), (Op.equal kt (key a) (key b)).run P w = .ok (decide (a = b)) w
  chk : ∀ (w : World) (e : Bool) (a : κ), (Instr.checkKey e 10000 kt (key a)).run P w = .ok () w
  desc : ∃ d, P.underlying kt = some d ∧ ∀ a b, Instr.sameNow d (key a) (key b) = none
  bits : ∀ a, Instr.sameBits 10000 (key a) (key a) = true

section
variable {κ ν : Type} [DecidableEq κ] {P : Program} {kt : TypeId} {key : κ → Value} {val : ν → Value}

def get (M : List (κ × ν)) (k : κ) : Option ν := (M.find? (fun p => decide (p.1 = k))).map (·.2)
def put (M : List (κ × ν)) (k : κ) (v : ν) : List (κ × ν) := if (get M k).isSome then M.map (fun p => if p.1 = k then (k, v) else p) else M ++ [(k, v)]
def del (M : List (κ × ν)) (k : κ) : List (κ × ν) := M.filter (fun p => decide (p.1 ≠ k))

/-- What an array of entries holds. -/
def Reads (key : κ → Value) (val : ν → Value) (es : List MapEntry) (M : List (κ × ν)) : Prop := es.map (fun e => (e.key, e.val)) = M.map (fun p => (key p.1, val p.2))

theorem run_find (K : KeyOK P kt key) (w : World) (k : κ) : ∀ (es : List MapEntry) (M : List (κ × ν)) (i : Nat), Reads key val es M →
    (Instr.findAsking kt (key k) es i).run P w = .ok ((M.findIdx? (fun p => decide (p.1 = k))).bind fun j => (es[j]?).map fun e => (i + j, e.val)) w
  | [], M, i, h => by
    cases M with
    | nil => simp [Instr.findAsking]
    | cons p M => simp [Reads] at h
  | e :: es, M, i, h => by
    cases M with
    | nil => simp [Reads] at h
    | cons p M =>
      simp only [Reads, List.map_cons, List.cons.injEq, Prod.mk.injEq] at h
      obtain ⟨⟨h1, h2⟩, h3⟩ := h
      have ih := run_find K w k es M (i + 1) h3
      rw [Instr.findAsking, Sem.run_bind, h1, K.eq w k p.1, Result.andThen_ok]
      by_cases hk : p.1 = k
      · subst hk
        simp [List.findIdx?_cons]
      · have hk' : ¬ k = p.1 := fun e => hk e.symm
        simp only [hk', decide_false, Bool.false_eq_true, if_false, ih, List.findIdx?_cons, hk]
        cases M.findIdx? (fun p => decide (p.1 = k)) <;> simp [Nat.add_assoc, Nat.add_comm 1]

omit [DecidableEq κ] in
theorem reads_length {es : List MapEntry} {M : List (κ × ν)} (h : Reads key val es M) : es.length = M.length := by
  have := congrArg List.length h
  simpa using this

omit [DecidableEq κ] in
theorem reads_at {es : List MapEntry} {M : List (κ × ν)} (h : Reads key val es M) {j : Nat} (hj : j < M.length) : ∃ e, es[j]? = some e ∧ e.key = key M[j].1 ∧ e.val = val M[j].2 := by
  have hl : j < es.length := by rw [reads_length h]; exact hj
  have e := congrArg (fun l => l[j]?) h
  simp only [List.getElem?_map, List.getElem?_eq_getElem hl, List.getElem?_eq_getElem hj, Option.map_some, Option.some.injEq, Prod.mk.injEq] at e
  exact ⟨es[j], List.getElem?_eq_getElem hl, e.1, e.2⟩

theorem run_findKey (K : KeyOK P kt key) (w : World) (k : κ) {es : List MapEntry} {M : List (κ × ν)} (h : Reads key val es M) :
    (Instr.findKey kt (key k) es).run P w = .ok ((M.findIdx? (fun p => decide (p.1 = k))).bind fun j => (es[j]?).map fun e => (j, e.val)) w := by
  obtain ⟨d, hd, hn⟩ := K.desc
  have h0 := run_find K w k es M 0 h
  simp only [Nat.zero_add] at h0
  rw [Instr.findKey, Sem.run_bind, run_underlying hd, Result.andThen_ok]
  cases es with
  | nil =>
    have : M = [] := List.eq_nil_of_length_eq_zero (by have := reads_length h; simpa using this.symm)
    subst this
    simp [Instr.findNow]
  | cons e es =>
    cases M with
    | nil => simp [Reads] at h
    | cons p M =>
      have h' := h
      simp only [Reads, List.map_cons, List.cons.injEq, Prod.mk.injEq] at h'
      simp only [Instr.findNow, h'.1.1, hn]
      exact h0

theorem get_findIdx (M : List (κ × ν)) (k : κ) : get M k = (M.findIdx? (fun p => decide (p.1 = k))).bind fun j => (M[j]?).map (·.2) := by
  induction M with
  | nil => rfl
  | cons p M ih =>
    unfold get at ih ⊢
    by_cases h : p.1 = k
    · simp [List.findIdx?_cons, h]
    · simp only [List.find?_cons, List.findIdx?_cons, h, decide_false, Bool.false_eq_true, if_false, ih]
      cases M.findIdx? (fun p => decide (p.1 = k)) <;> simp

/-- A block is a map that reads as M. -/
def Tab (key : κ → Value) (val : ν → Value) (w : World) (b : Nat) (M : List (κ × ν)) : Prop :=
  ∃ es clock, w.heap[b]? = some (.map es clock) ∧ Reads key val es.toList M ∧ (M.map (·.1)).Nodup ∧ (es.toList.map (·.born)).Nodup ∧ ∀ e ∈ es.toList, e.born < clock

theorem run_getObj {w : World} {b : Nat} {es : Array MapEntry} {clock : Nat} (h : w.heap[b]? = some (.map es clock)) : (getObj b).run P w = .ok (.map es clock) w := by
  simp [getObj, Sem.run, h]

theorem Tab.look {w : World} {b : Nat} {M : List (κ × ν)} (h : Tab key val w b M) (K : KeyOK P kt key) {mt et : TypeId} (hm : P.underlying mt = some (.map kt et)) {z : Value}
    (hz : ∀ w, (zeroValue et).run P w = .ok z w) (k : κ) (ok : Bool) :
    (Instr.lookup mt (.map (some b)) (key k) ok).run P w = .ok (if ok then .tuple #[((get M k).map val).getD z, .bool (get M k).isSome] else ((get M k).map val).getD z) w := by
  obtain ⟨es, clock, hb, hr, _⟩ := h
  have hf := run_findKey K w k hr
  rw [Instr.lookup, Sem.run_bind, run_underlying hm, Result.andThen_ok]
  simp only [Sem.run_bind, run_getObj hb, Result.andThen_ok, Sem.run_pure, K.chk, hf, get_findIdx]
  cases hi : M.findIdx? (fun p => decide (p.1 = k)) with
  | none => simp [hz]
  | some j =>
    have hj : j < M.length := (List.findIdx?_eq_some_iff_getElem.1 hi).1
    obtain ⟨e, he, _, hv⟩ := reads_at hr hj
    have he' : es[j]? = some e := by simpa using he
    simp [he', hj, hv]

omit [DecidableEq κ] in
theorem Tab.later {w : World} {b : Nat} {M : List (κ × ν)} (h : Tab key val w b M) (x : Later w) : Tab key val x.w b M := by
  obtain ⟨es, clock, hb, r⟩ := h
  exact ⟨es, clock, by rw [x.le.block b (Array.getElem?_eq_some_iff.1 hb).1]; exact hb, r⟩
omit [DecidableEq κ] in
theorem Tab.lt {w : World} {b : Nat} {M : List (κ × ν)} (h : Tab key val w b M) : b < w.heap.size := by
  obtain ⟨es, clock, hb, r⟩ := h
  exact (Array.getElem?_eq_some_iff.1 hb).1
omit [DecidableEq κ] in
theorem Tab.nil (w : World) {b : Nat} (h : w.heap[b]? = some (.map #[] 0)) : Tab key val w b ([] : List (κ × ν)) := ⟨#[], 0, h, rfl, by simp, by simp, by simp⟩

/-- A world in which one block is another map. -/
def setMap (w : World) (b : Nat) (o : Obj) : World := { w with heap := w.heap.setIfInBounds b o }
theorem setMap_same {w : World} {b : Nat} {o : Obj} (h : b < w.heap.size) : (setMap w b o).heap[b]? = some o := by simp [setMap, h]
theorem setMap_other {w : World} {b k : Nat} {o : Obj} (h : k ≠ b) : (setMap w b o).heap[k]? = w.heap[k]? := by simp [setMap, Array.getElem?_setIfInBounds_ne (Ne.symm h)]
theorem setMap_size {w : World} {b : Nat} {o : Obj} : (setMap w b o).heap.size = w.heap.size := by simp [setMap]
theorem run_setObj {w : World} {b : Nat} {es : Array MapEntry} {clock : Nat} (h : w.heap[b]? = some (.map es clock)) (o : Obj) : (setObj b o).run P w = .ok () (setMap w b o) := by
  simp [setObj, Sem.run, h, setMap]

theorem get_isSome (M : List (κ × ν)) (k : κ) : (get M k).isSome = (M.findIdx? (fun p => decide (p.1 = k))).isSome := by
  rw [get_findIdx]
  cases hi : M.findIdx? (fun p => decide (p.1 = k)) with
  | none => rfl
  | some j =>
    have hj : j < M.length := (List.findIdx?_eq_some_iff_getElem.1 hi).1
    simp [hj]

theorem map_modify {α : Type} (f : α → α) (p : α → Bool) : ∀ (l : List α) (j : Nat), l.findIdx? p = some j → (l.map p).count true ≤ 1 → l.modify j f = l.map (fun x => if p x then f x else x)
  | [], _, h, _ => by simp at h
  | x :: l, j, h, hc => by
    rw [List.findIdx?_cons] at h
    by_cases hp : p x = true
    · simp only [hp, if_true, Option.some.injEq] at h
      subst h
      have hz : ∀ y ∈ l, p y = false := by
        simp only [List.map_cons, hp, List.count_cons_self] at hc
        have : (l.map p).count true = 0 := by omega
        intro y hy
        have := List.count_eq_zero.1 this
        cases hpy : p y
        · rfl
        · exact absurd (hpy ▸ List.mem_map_of_mem hy) this
      simp only [List.modify_zero_cons, List.map_cons, hp, if_true, List.cons.injEq, true_and]
      conv => lhs; rw [← List.map_id l]
      exact List.map_congr_left fun y hy => by simp [hz y hy]
    · simp only [hp, Bool.false_eq_true, if_false, Option.map_eq_some_iff] at h
      obtain ⟨j', hj', rfl⟩ := h
      have hp' : p x = false := by simpa using hp
      simp only [List.modify_succ_cons, List.map_cons, hp', Bool.false_eq_true, if_false, List.cons.injEq, true_and]
      exact map_modify f p l j' hj' (by simpa [hp'] using hc)

theorem count_nodup (M : List (κ × ν)) (k : κ) (h : (M.map (·.1)).Nodup) : (M.map (fun p => decide (p.1 = k))).count true ≤ 1 := by
  have e : (M.map (fun p => decide (p.1 = k))).count true = (M.map (·.1)).count k := by
    induction M with
    | nil => rfl
    | cons p M ih =>
      simp only [List.map_cons, List.nodup_cons] at h
      simp only [List.map_cons, List.count_cons, ih h.2]
      by_cases hk : p.1 = k <;> simp [hk]
  rw [e]
  exact List.nodup_iff_count.1 h k

theorem put_keys (M : List (κ × ν)) (k : κ) (v : ν) (h : (M.map (·.1)).Nodup) : ((put M k v).map (·.1)).Nodup := by
  unfold put
  split
  · rw [List.map_map]
    have : ((fun x => x.1) ∘ fun p : κ × ν => if p.1 = k then (k, v) else p) = (fun p => p.1) := by
      funext p
      by_cases hk : p.1 = k <;> simp [hk]
    rw [this]; exact h
  · rename_i hn
    rw [List.map_append, List.nodup_append]
    refine ⟨h, by simp, ?_⟩
    intro a ha b hb
    simp only [List.map_cons, List.map_nil, List.mem_singleton] at hb
    subst hb
    rintro rfl
    apply hn
    obtain ⟨p, hp, rfl⟩ := List.mem_map.1 ha
    rw [get, Option.isSome_map, List.find?_isSome]
    exact ⟨p, hp, by simp⟩

theorem Tab.store {w : World} {b : Nat} {M : List (κ × ν)} (h : Tab key val w b M) (K : KeyOK P kt key) {mt et : TypeId} (hm : P.underlying mt = some (.map kt et)) (k : κ) (v : ν) :
    ∃ o, (Instr.mapUpdate mt (.map (some b)) (key k) (val v)).run P w = .ok () (setMap w b o) ∧ Tab key val (setMap w b o) b (put M k v) := by
  obtain ⟨es, clock, hb, hr, hn, hbn, hbl⟩ := h
  have hlt : b < w.heap.size := (Array.getElem?_eq_some_iff.1 hb).1
  have hf := run_findKey K w k hr
  have hso : (get M k).isSome = (M.findIdx? (fun p => decide (p.1 = k))).isSome := get_isSome M k
  cases hi : M.findIdx? (fun p => decide (p.1 = k)) with
  | none =>
    rw [hi] at hso hf
    refine ⟨.map (es.push { key := key k, val := val v, born := clock }) (clock + 1), ?_, _, _, setMap_same hlt, ?_, put_keys M k v hn, ?_, ?_⟩
    · rw [Instr.mapUpdate, Sem.run_bind, run_underlying hm, Result.andThen_ok]
      simp only [Sem.run_bind, run_getObj hb, Result.andThen_ok, K.chk, hf, Option.bind_none, run_setObj hb]
    · simp only [put, hso, Option.isSome_none, Bool.false_eq_true, if_false]
      simp only [Reads, Array.toList_push, List.map_append, List.map_cons, List.map_nil]
      rw [show es.toList.map (fun e => (e.key, e.val)) = M.map (fun p => (key p.1, val p.2)) from hr]
    · simp only [Array.toList_push, List.map_append, List.map_cons, List.map_nil, List.nodup_append]
      refine ⟨hbn, by simp, ?_⟩
      intro a ha c hc
      simp only [List.mem_singleton] at hc
      subst hc
      obtain ⟨e, he, rfl⟩ := List.mem_map.1 ha
      have := hbl e he
      omega
    · intro e he
      simp only [Array.toList_push, List.mem_append, List.mem_singleton] at he
      rcases he with he | rfl
      · have := hbl e he; omega
      · simp
  | some j =>
    rw [hi] at hso hf
    have hj : j < M.length := (List.findIdx?_eq_some_iff_getElem.1 hi).1
    have hjk : M[j].1 = k := by have := (List.findIdx?_eq_some_iff_getElem.1 hi).2.1; simpa using this
    obtain ⟨e, he, hek, hev⟩ := reads_at hr hj
    have he' : es[j]? = some e := by simpa using he
    rw [hjk] at hek
    refine ⟨.map (es.modify j fun e => { e with key := key k, val := val v }) clock, ?_, _, _, setMap_same hlt, ?_, put_keys M k v hn, ?_, ?_⟩
    · rw [Instr.mapUpdate, Sem.run_bind, run_underlying hm, Result.andThen_ok]
      simp only [Sem.run_bind, run_getObj hb, Result.andThen_ok, K.chk, hf, Option.bind_some, he, Option.map_some, he', Option.getD_some, hek, Instr.keyThatStays, K.bits, if_true, Sem.run_pure, run_setObj hb]
    · have hput : put M k v = M.modify j (fun _ => (k, v)) := by
        rw [map_modify (fun _ => (k, v)) (fun p => decide (p.1 = k)) M j hi (count_nodup M k hn)]
        simp [put, hso]
      rw [hput]
      unfold Reads at hr ⊢
      apply List.ext_getElem?
      intro n
      have hn' := congrArg (fun l => l[n]?) hr
      simp only [List.getElem?_map] at hn'
      simp only [Array.toList_modify, List.getElem?_map, List.getElem?_modify]
      by_cases hnj : j = n
      · subst hnj
        simp [he', hj]
      · simp only [hnj, if_false, Option.map_eq_map, Option.map_id_fun', id_eq]
        exact hn'
    · rw [Array.toList_modify]
      have : (es.toList.modify j fun e => { e with key := key k, val := val v }).map (·.born) = es.toList.map (·.born) := by
        apply List.ext_getElem?
        intro n
        simp only [List.getElem?_map, List.getElem?_modify]
        by_cases hnj : j = n
        · subst hnj; cases es.toList[j]? <;> simp
        · simp [hnj]
      rw [this]; exact hbn
    · intro e1 he1
      rw [Array.toList_modify] at he1
      obtain ⟨n, hn1⟩ := List.mem_iff_getElem?.1 he1
      rw [List.getElem?_modify] at hn1
      cases hen : es.toList[n]? with
      | none => rw [hen] at hn1; simp at hn1
      | some e0 =>
        rw [hen] at hn1
        have h0 := hbl e0 (List.mem_of_getElem? hen)
        by_cases hnj : j = n
        · simp only [hnj, if_true, Option.map_eq_map, Option.map_some, Option.some.injEq] at hn1
          subst hn1
          exact h0
        · simp only [hnj, if_false, Option.map_eq_map, Option.map_some, Option.some.injEq] at hn1
          subst hn1
          exact h0

theorem erase_map {α β : Type} (f : α → β) : ∀ (l : List α) (j : Nat), (l.eraseIdx j).map f = (l.map f).eraseIdx j
  | [], _ => rfl
  | _ :: _, 0 => rfl
  | x :: l, j + 1 => by simp only [List.eraseIdx_cons_succ, List.map_cons, erase_map f l j]
theorem del_erase (M : List (κ × ν)) (k : κ) (h : (M.map (·.1)).Nodup) : del M k = match M.findIdx? (fun p => decide (p.1 = k)) with | some j => M.eraseIdx j | none => M := by
  induction M with
  | nil => rfl
  | cons p M ih =>
    simp only [List.map_cons, List.nodup_cons] at h
    have ih := ih h.2
    by_cases hk : p.1 = k
    · subst hk
      have hz : ∀ q ∈ M, decide (q.1 ≠ p.1) = true := by
        intro q hq
        simp only [ne_eq, decide_not, Bool.not_eq_true', decide_eq_false_iff_not]
        intro e
        exact h.1 (List.mem_map.2 ⟨q, hq, e⟩)
      simp only [del, List.filter_cons, List.findIdx?_cons]
      simp only [ne_eq, not_true, decide_false, Bool.false_eq_true, if_false, decide_true, if_true, List.eraseIdx_zero, List.tail_cons]
      exact List.filter_eq_self.2 hz
    · simp only [del, List.filter_cons, List.findIdx?_cons, hk] at ih ⊢
      simp only [ne_eq, not_false_eq_true, decide_true, if_true, decide_false, Bool.false_eq_true, if_false, hk]
      rw [ih]
      cases M.findIdx? (fun p => decide (p.1 = k)) <;> simp

theorem Tab.drop {w : World} {b : Nat} {M : List (κ × ν)} (h : Tab key val w b M) (K : KeyOK P kt key) {mt et kt' ty : TypeId} (hm : P.underlying mt = some (.map kt et)) (k : κ) :
    ∃ o, (Builtin.delete_ #[mt, kt'] ty #[.map (some b), key k]).run P w = .ok (.tuple #[]) (setMap w b o) ∧ Tab key val (setMap w b o) b (del M k) ∧
      (∀ es clock, w.heap[b]? = some (.map es clock) → ∃ es', o = .map es' clock ∧ ∀ e, e ∈ es'.toList → e ∈ es.toList) := by
  obtain ⟨es, clock, hb, hr, hn, hbn, hbl⟩ := h
  have hlt : b < w.heap.size := (Array.getElem?_eq_some_iff.1 hb).1
  have hf := run_findKey K w k hr
  have hd := del_erase M k hn
  have hdn : ((del M k).map (·.1)).Nodup := hn.sublist ((List.filter_sublist).map _)
  have hun : ∀ es' clock', w.heap[b]? = some (.map es' clock') → es' = es ∧ clock' = clock := fun es' clock' h' => by
    rw [hb] at h'; cases h'; exact ⟨rfl, rfl⟩
  cases hi : M.findIdx? (fun p => decide (p.1 = k)) with
  | none =>
    rw [hi] at hf hd
    simp only at hd
    refine ⟨.map es clock, ?_, ⟨_, _, setMap_same hlt, by rw [hd]; exact hr, hdn, hbn, hbl⟩, fun es' clock' h' => ?_⟩
    · simp [Builtin.delete_, Sem.run_bind, run_underlying hm, run_getObj hb, K.chk, hf, run_setObj hb]
    · obtain ⟨rfl, rfl⟩ := hun es' clock' h'
      exact ⟨_, rfl, fun _ h => h⟩
  | some j =>
    rw [hi] at hf hd
    simp only at hd
    have hj : j < M.length := (List.findIdx?_eq_some_iff_getElem.1 hi).1
    obtain ⟨e, he, hek, hev⟩ := reads_at hr hj
    have he' : es[j]? = some e := by simpa using he
    have hjs : j < es.size := (Array.getElem?_eq_some_iff.1 he').1
    have hsub : (es.eraseIdxIfInBounds j).toList = es.toList.eraseIdx j := by
      simp [Array.eraseIdxIfInBounds, hjs]
    refine ⟨.map (es.eraseIdxIfInBounds j) clock, ?_, ⟨_, _, setMap_same hlt, ?_, hdn, ?_, ?_⟩, fun es' clock' h' => ?_⟩
    · simp [Builtin.delete_, Sem.run_bind, run_underlying hm, run_getObj hb, K.chk, hf, run_setObj hb, he']
    · rw [hd, hsub]
      unfold Reads at hr ⊢
      rw [erase_map, hr, ← erase_map]
    · rw [hsub]
      exact hbn.sublist ((List.eraseIdx_sublist es.toList j).map _)
    · intro e1 he1
      rw [hsub] at he1
      exact hbl e1 (List.mem_of_mem_eraseIdx he1)
    · obtain ⟨rfl, rfl⟩ := hun es' clock' h'
      exact ⟨_, rfl, fun e1 he1 => by rw [hsub] at he1; exact List.mem_of_mem_eraseIdx he1⟩

theorem get_put (M : List (κ × ν)) (k k' : κ) (v : ν) : get (put M k v) k' = if k' = k then some v else get M k' := by
  unfold put
  split
  · rename_i hs
    induction M with
    | nil => simp [get] at hs
    | cons p M ih =>
      by_cases hpk : p.1 = k
      · subst hpk
        by_cases hk : k' = p.1
        · subst hk; simp [get]
        · have hk' : ¬ p.1 = k' := fun e => hk e.symm
          simp only [get, List.map_cons, if_true, List.find?_cons, hk', decide_false, hk, if_false]
          congr 1
          have hM : ∀ (M : List (κ × ν)), (M.map (fun q => if q.1 = p.1 then (p.1, v) else q)).find? (fun q => decide (q.1 = k')) = M.find? (fun q => decide (q.1 = k')) := by
            intro M
            induction M with
            | nil => rfl
            | cons q M ihM =>
              by_cases hq : q.1 = p.1
              · simp only [List.map_cons, hq, if_true, List.find?_cons, hk', decide_false, ihM]
              · simp only [List.map_cons, hq, if_false, List.find?_cons, ihM]
          exact hM M
      · have hs' : (get M k).isSome = true := by simpa [get, List.find?_cons, hpk] using hs
        have ih := ih hs'
        unfold get at ih ⊢
        by_cases hk : p.1 = k'
        · have : ¬ k' = k := fun e => hpk (hk.trans e)
          simp [hk, this]
        · simp only [List.map_cons, hpk, if_false, List.find?_cons, hk, decide_false]
          exact ih
  · rename_i hs
    unfold get at hs ⊢
    rw [List.find?_append]
    by_cases hk : k' = k
    · subst hk
      have : M.find? (fun p => decide (p.1 = k')) = none := by
        cases hf : M.find? (fun p => decide (p.1 = k')) with
        | none => rfl
        | some q => rw [hf] at hs; simp at hs
      simp [this]
    · have hk' : ¬ k = k' := fun e => hk e.symm
      simp [hk, hk']

theorem get_del (M : List (κ × ν)) (k k' : κ) : get (del M k) k' = if k' = k then none else get M k' := by
  unfold get del
  rw [List.find?_filter]
  by_cases hk : k' = k
  · subst hk
    simp
  · simp only [hk, if_false]
    congr 2
    funext p
    by_cases hp : p.1 = k'
    · simp [hp, hk]
    · simp [hp]

theorem KeyOK.inj (K : KeyOK P kt key) {a b : κ} (h : key a = key b) : a = b := by
  have h1 := K.eq default a b
  rw [h, K.eq default b b] at h1
  simpa using h1.symm

/-- A map that is ranged over: M is what it holds, S are the keys that have come. -/
def Rng (key : κ → Value) (val : ν → Value) (w : World) (b r : Nat) (M : List (κ × ν)) (S : List κ) : Prop :=
  ∃ es clock seen, w.heap[b]? = some (.map es clock) ∧ Reads key val es.toList M ∧ (M.map (·.1)).Nodup ∧ (es.toList.map (·.born)).Nodup ∧ (∀ e ∈ es.toList, e.born < clock) ∧
    w.heap[r]? = some (.mapIter (some b) clock seen clock) ∧ ∀ e ∈ es.toList, (e.born ∈ seen ↔ ∃ k ∈ S, e.key = key k)

omit [DecidableEq κ] in
theorem Rng.tab {w : World} {b r : Nat} {M : List (κ × ν)} {S : List κ} (h : Rng key val w b r M S) : Tab key val w b M := by
  obtain ⟨es, clock, seen, h1, h2, h3, h4, h5, _⟩ := h
  exact ⟨es, clock, h1, h2, h3, h4, h5⟩
omit [DecidableEq κ] in
theorem Rng.ne {w : World} {b r : Nat} {M : List (κ × ν)} {S : List κ} (h : Rng key val w b r M S) : r ≠ b := by
  obtain ⟨es, clock, seen, h1, _, _, _, _, h6, _⟩ := h
  rintro rfl
  rw [h1] at h6; cases h6
omit [DecidableEq κ] in
theorem Rng.lt {w : World} {b r : Nat} {M : List (κ × ν)} {S : List κ} (h : Rng key val w b r M S) : b < w.heap.size ∧ r < w.heap.size := by
  obtain ⟨es, clock, seen, h1, _, _, _, _, h6, _⟩ := h
  exact ⟨(Array.getElem?_eq_some_iff.1 h1).1, (Array.getElem?_eq_some_iff.1 h6).1⟩
omit [DecidableEq κ] in
theorem Rng.same {w w' : World} {b r : Nat} {M : List (κ × ν)} {S : List κ} (h : Rng key val w b r M S) (hb : w'.heap[b]? = w.heap[b]?) (hr : w'.heap[r]? = w.heap[r]?) : Rng key val w' b r M S := by
  obtain ⟨es, clock, seen, h1, h2, h3, h4, h5, h6, h7⟩ := h
  exact ⟨es, clock, seen, hb.trans h1, h2, h3, h4, h5, hr.trans h6, h7⟩
omit [DecidableEq κ] in
theorem Rng.later {w : World} {b r : Nat} {M : List (κ × ν)} {S : List κ} (h : Rng key val w b r M S) (x : Later w) : Rng key val x.w b r M S :=
  h.same (x.le.block b h.lt.1) (x.le.block r h.lt.2)

omit [DecidableEq κ] in
theorem Tab.range {w : World} {b : Nat} {M : List (κ × ν)} (h : Tab key val w b M) {mt et : TypeId} (hm : P.underlying mt = some (.map kt et)) :
    ∃ ob, (Instr.range mt (.map (some b))).run P w = .ok (.pointer (some ⟨w.heap.size, 0, none⟩)) (w.alloc ob) ∧ Rng key val (w.alloc ob) b w.heap.size M [] := by
  obtain ⟨es, clock, hb, h2, h3, h4, h5⟩ := h
  have hlt : b < w.heap.size := (Array.getElem?_eq_some_iff.1 hb).1
  refine ⟨.mapIter (some b) clock #[] clock, ?_, es, clock, #[], ?_, h2, h3, h4, h5, heap_alloc_new w _, by simp⟩
  · simp [Instr.range, Sem.run_bind, run_underlying hm, run_getObj hb, newObj, Sem.run]
  · exact (Below.heap_alloc w _ b hlt).trans hb

theorem run_choose_next (w : World) (m : Nat) (hm : 0 < m) : ∃ c n, c < m ∧ (choose (.mapNext m)).run P w = .ok c (w.drewN n) := by
  by_cases h1 : m ≤ 1
  · exact ⟨0, 0, hm, by simp [choose, Sem.run, Question.forced, h1, World.drewN_zero]⟩
  · refine ⟨w.tape w.drawn (.mapNext m) % m, 1, Nat.mod_lt _ hm, ?_⟩
    simp [choose, Sem.run, Question.forced, h1, Question.cut, World.drewN]

omit [DecidableEq κ] in
theorem mem_reads {es : List MapEntry} {M : List (κ × ν)} (h : Reads key val es M) {p : κ × ν} (hp : p ∈ M) : ∃ e ∈ es, e.key = key p.1 ∧ e.val = val p.2 := by
  have : (key p.1, val p.2) ∈ es.map (fun e => (e.key, e.val)) := by rw [h]; exact List.mem_map.2 ⟨p, hp, rfl⟩
  obtain ⟨e, he, h2⟩ := List.mem_map.1 this
  simp only [Prod.mk.injEq] at h2
  exact ⟨e, he, h2⟩
omit [DecidableEq κ] in
theorem reads_mem {es : List MapEntry} {M : List (κ × ν)} (h : Reads key val es M) {e : MapEntry} (he : e ∈ es) : ∃ p ∈ M, e.key = key p.1 ∧ e.val = val p.2 := by
  have : (e.key, e.val) ∈ M.map (fun p => (key p.1, val p.2)) := by rw [← h]; exact List.mem_map.2 ⟨e, he, rfl⟩
  obtain ⟨p, hp, h2⟩ := List.mem_map.1 this
  simp only [Prod.mk.injEq] at h2
  exact ⟨p, hp, h2.1.symm, h2.2.symm⟩

theorem nodup_inj {α : Type} {l : List α} (h : l.Nodup) {i j : Nat} (hi : i < l.length) (hj : j < l.length) (e : l[i] = l[j]) : i = j := by
  rcases Nat.lt_trichotomy i j with h1 | h1 | h1
  · exact absurd e (List.pairwise_iff_getElem.1 h i j hi hj h1)
  · exact h1
  · exact absurd e.symm (List.pairwise_iff_getElem.1 h j i hj hi h1)
theorem reads_keys {es : List MapEntry} {M : List (κ × ν)} (K : KeyOK P kt key) (h : Reads key val es M) (hn : (M.map (·.1)).Nodup) {e e' : MapEntry} (he : e ∈ es) (he' : e' ∈ es) (hk : e.key = e'.key) : e.born = e'.born := by
  have hkeys : es.map (·.key) = (M.map (·.1)).map key := by
    have := congrArg (fun l => l.map Prod.fst) h
    simpa [List.map_map, Function.comp_def] using this
  have hnk : (es.map (·.key)).Nodup := by
    rw [hkeys]
    exact List.Pairwise.map key (fun a b hab hk => hab (K.inj hk)) hn
  obtain ⟨i, hi, rfl⟩ := List.mem_iff_getElem.1 he
  obtain ⟨j, hj, rfl⟩ := List.mem_iff_getElem.1 he'
  have : i = j := nodup_inj hnk (i := i) (j := j) (by simpa using hi) (by simpa using hj) (by simpa using hk)
  subst this
  rfl

/-- The next round of a range over a map. -/
theorem Rng.next (K : KeyOK P kt key) {w : World} {b r : Nat} {M : List (κ × ν)} {S : List κ} (h : Rng key val w b r M S) (ty : TypeId) :
    ((∀ p ∈ M, p.1 ∈ S) ∧ (Instr.next (.pointer (some ⟨r, 0, none⟩)) false ty).run P w = .ok (.tuple #[.bool false]) w) ∨
    (∃ p ∈ M, p.1 ∉ S ∧ ∃ o n, (Instr.next (.pointer (some ⟨r, 0, none⟩)) false ty).run P w = .ok (.tuple #[.bool true, key p.1, val p.2]) (setMap (w.drewN n) r o) ∧
      Rng key val (setMap (w.drewN n) r o) b r M (p.1 :: S) ∧ (Instr.entry (.pointer (some ⟨r, 0, none⟩))).run P (setMap (w.drewN n) r o) = .ok (.tuple #[key p.1, val p.2]) (setMap (w.drewN n) r o)) := by
  have hne := h.ne
  have hlt := h.lt
  obtain ⟨es, clock, seen, h1, h2, h3, h4, h5, h6, h7⟩ := h
  obtain ⟨L, hL⟩ : ∃ L, es.filter (fun e => !seen.contains e.born) = L := ⟨_, rfl⟩
  have hmem : ∀ e, e ∈ L ↔ e ∈ es.toList ∧ e.born ∉ seen := by
    intro e
    rw [← hL]
    simp
  have hold : L.filter (fun e => decide (e.born < clock)) = L := by
    apply Array.ext'
    rw [Array.toList_filter]
    exact List.filter_eq_self.2 fun e he => by
      have := h5 e ((hmem e).1 (Array.mem_toList_iff.1 he)).1
      simpa using this
  have hnew : L.filter (fun e => decide (e.born ≥ clock)) = #[] := by
    apply Array.ext'
    rw [Array.toList_filter]
    exact List.filter_eq_nil_iff.2 fun e he => by
      have := h5 e ((hmem e).1 (Array.mem_toList_iff.1 he)).1
      simp; omega
  have hall : (!seen.isEmpty && !es.isEmpty && es.all (fun e => decide (e.born ≥ clock))) = false := by
    cases hes : es.toList with
    | nil => have : es = #[] := by apply Array.ext'; simpa using hes
             subst this; simp
    | cons e l =>
      have he : e ∈ es.toList := by rw [hes]; simp
      have := h5 e he
      have hf : es.all (fun e => decide (e.born ≥ clock)) = false := by
        rw [← Array.all_toList, hes]
        have hd : decide (e.born ≥ clock) = false := by simp; omega
        simp [hd]
      rw [hf]; simp
  have g1 : (getObj r).run P w = .ok (.mapIter (some b) clock seen clock) w := by simp [getObj, Sem.run, h6]
  have start : (Instr.next (.pointer (some ⟨r, 0, none⟩)) false ty).run P w =
      ((choose (.mapNext ((if L.isEmpty then #[none] else #[]) ++ (L ++ #[]).map some).size)).run P w).andThen fun c w1 =>
        (match ((if L.isEmpty then #[none] else #[]) ++ (L ++ #[]).map some)[c]? with
          | some (some e) => do
            setObj r (.mapIter (some b) clock (seen.push e.born) clock)
            pure (.tuple #[.bool true, e.key, e.val])
          | some none => pure (.tuple #[.bool false])
          | none => stuck "Next: no such candidate" : Sem Value).run P w1 := by
    simp only [Instr.next, Sem.run_bind, g1, Result.andThen_ok, run_getObj h1, hall, Bool.false_eq_true, if_false, hL, hold, hnew]
    rfl
  by_cases hemp : L = #[]
  · subst hemp
    refine .inl ⟨fun p hp => ?_, ?_⟩
    · obtain ⟨e, he, hk, _⟩ := mem_reads h2 hp
      have hs : e.born ∈ seen := by
        by_cases hse : e.born ∈ seen
        · exact hse
        · exact absurd ((hmem e).2 ⟨he, hse⟩) (by simp)
      obtain ⟨k, hk1, hk2⟩ := (h7 e he).1 hs
      rw [K.inj (hk.symm.trans hk2)]; exact hk1
    · rw [start]
      simp [choose, Sem.run, Question.forced]
  · have hsz : 0 < L.size := Array.size_pos_iff.2 hemp
    have hie : L.isEmpty = false := by simpa using hemp
    obtain ⟨c, n, hc, hrun⟩ := run_choose_next (P := P) w L.size hsz
    have hcm : L[c] ∈ L := Array.getElem_mem hc
    obtain ⟨hes, hns⟩ := (hmem _).1 hcm
    obtain ⟨p, hp, hk, hv⟩ := reads_mem h2 hes
    have hrlt : r < (w.drewN n).heap.size := hlt.2
    have hpS : p.1 ∉ S := fun hs => hns ((h7 _ hes).2 ⟨p.1, hs, hk⟩)
    refine .inr ⟨p, hp, hpS, .mapIter (some b) clock (seen.push (L[c]).born) clock, n, ?_, ?_, ?_⟩
    · rw [start]
      simp only [hie, Bool.false_eq_true, if_false, Array.append_empty, Array.empty_append, Array.size_map, hrun, Result.andThen_ok]
      simp [hc, setObj, Sem.run, h6, setMap, hk, hv]
    · refine ⟨es, clock, seen.push (L[c]).born, ?_, h2, h3, h4, h5, setMap_same hrlt, ?_⟩
      · rw [setMap_other (Ne.symm hne)]; exact h1
      · intro e he
        rw [Array.mem_push, h7 e he]
        constructor
        · rintro (⟨k, hk1, hk2⟩ | hb)
          · exact ⟨k, by simp [hk1], hk2⟩
          · refine ⟨p.1, by simp, ?_⟩
            have : e = L[c] := by
              obtain ⟨i, hi, rfl⟩ := List.mem_iff_getElem.1 he
              obtain ⟨j, hj, hje⟩ := List.mem_iff_getElem.1 hes
              rw [← hje] at hb ⊢
              have : i = j := nodup_inj h4 (i := i) (j := j) (by simpa using hi) (by simpa using hj) (by simpa using hb)
              subst this; rfl
            rw [this]; exact hk
        · rintro ⟨k, hk1, hk2⟩
          simp only [List.mem_cons] at hk1
          rcases hk1 with rfl | hk1
          · exact .inr (reads_keys K h2 h3 he hes (hk2.trans hk.symm))
          · exact .inl ⟨k, hk1, hk2⟩
    · have g2 : (getObj r).run P (setMap (w.drewN n) r (.mapIter (some b) clock (seen.push (L[c]).born) clock)) = .ok (.mapIter (some b) clock (seen.push (L[c]).born) clock) (setMap (w.drewN n) r (.mapIter (some b) clock (seen.push (L[c]).born) clock)) := by
        simp [getObj, Sem.run, setMap_same hrlt]
      have h1' : (setMap (w.drewN n) r (.mapIter (some b) clock (seen.push (L[c]).born) clock)).heap[b]? = some (.map es clock) := by
        rw [setMap_other (Ne.symm hne)]; exact h1
      have hfind : es.find? (fun e => e.born == (L[c]).born) = some L[c] := by
        rw [← Array.find?_toList]
        cases hf : es.toList.find? (fun e => e.born == (L[c]).born) with
        | none =>
          have := List.find?_eq_none.1 hf _ hes
          simp at this
        | some e =>
          have hb := List.find?_some hf
          have he := List.mem_of_find?_eq_some hf
          simp only [beq_iff_eq] at hb
          obtain ⟨i, hi, rfl⟩ := List.mem_iff_getElem.1 he
          obtain ⟨j, hj, hje⟩ := List.mem_iff_getElem.1 hes
          rw [← hje] at hb ⊢
          have : i = j := nodup_inj h4 (i := i) (j := j) (by simpa using hi) (by simpa using hj) (by simpa using hb)
          subst this; rfl
      simp only [Instr.entry, Sem.run_bind, g2, Result.andThen_ok, Array.back?_push, run_getObj h1', bne_self_eq_false, Bool.false_eq_true, if_false, hfind, hk, hv]
      rfl

theorem Rng.drop {w : World} {b r : Nat} {M : List (κ × ν)} {S : List κ} (h : Rng key val w b r M S) (K : KeyOK P kt key) {mt et kt' ty : TypeId} (hm : P.underlying mt = some (.map kt et)) (k : κ) :
    ∃ o, (Builtin.delete_ #[mt, kt'] ty #[.map (some b), key k]).run P w = .ok (.tuple #[]) (setMap w b o) ∧ Rng key val (setMap w b o) b r (del M k) S := by
  have hne := h.ne
  have hlt := h.lt
  have ht := h.tab
  obtain ⟨es, clock, seen, h1, h2, h3, h4, h5, h6, h7⟩ := h
  obtain ⟨o, ho, hT, hsub⟩ := ht.drop K (kt' := kt') (ty := ty) hm k
  refine ⟨o, ho, ?_⟩
  obtain ⟨es', rfl, hs⟩ := hsub es clock h1
  obtain ⟨es2, clock2, t1, t2, t3, t4, t5⟩ := hT
  rw [setMap_same hlt.1] at t1
  cases t1
  exact ⟨es', clock, seen, setMap_same hlt.1, t2, t3, t4, t5, by rw [setMap_other hne]; exact h6, fun e he => h7 e (hs e he)⟩
end
end Tb
end Go.Proofs.Ytpkgfkeekcgkcaa

/-  Keys of the map of labels; arrays of numbers (proof.lengths). -/
namespace Go.Proofs.Ytpkgfkeekcgkcaa
open Go.RowKit Go.Shelf
/-- an array's cells -/
def aggA (xs : List Int) : Array Value := (xs.map (Value.int .i64)).toArray
theorem run_part_agg (xs : List Int) {i : Nat} (hi : i < xs.length) (w : World) : (part 3 (aggA xs) (i * 1)).run Try.prog w = .ok (.int .i64 (nth xs i)) w := by
  refine run_part_plain w (by kernel_rfl) ?_
  simp [aggA, hi, nth]
theorem eqItems_ints (xs ys : List Int) (d : Nat) (w : World) : ∀ is : List Nat, (∀ i ∈ is, i < xs.length ∧ i < ys.length) →
    (Op.eqItems (d + 1) 3 1 (aggA xs) (aggA ys) is).run Try.prog w = .ok (is.all fun i => nth xs i == nth ys i) w
  | [], _ => by simp [Op.eqItems]
  | i :: is, h => by
    have hi := h i (by simp)
    have ih := eqItems_ints xs ys d w is fun j hj => h j (by simp [hj])
    rw [Op.eqItems, Sem.run_bind, run_part_agg xs hi.1, Result.andThen_ok, Sem.run_bind, run_part_agg ys hi.2, Result.andThen_ok, Sem.run_bind, run_equalIn_int w d 3 .i64 .i64 _ _ Try.underlying3, Result.andThen_ok, List.all_cons]
    cases nth xs i == nth ys i
    · simp
    · simp [ih]
theorem all_eq {n : Nat} {xs ys : List Int} (h1 : xs.length = n) (h2 : ys.length = n) : ((List.range n).all fun i => nth xs i == nth ys i) = decide (xs = ys) := by
  rw [Bool.eq_iff_iff, List.all_eq_true, decide_eq_true_iff]
  constructor
  · intro h
    refine List.ext_getElem (by rw [h1, h2]) fun j hj hj' => ?_
    have := h j (List.mem_range.2 (by omega))
    rw [beq_iff_eq, nth_eq hj, nth_eq hj'] at this
    exact this
  · rintro rfl j _; simp
theorem cellsInt : Try.prog.cellsOf 3 = 1 := by kernel_rfl
theorem infoInt : ∃ i, Try.prog.info? 3 = some i := Option.isSome_iff_exists.1 (by kernel_rfl)
theorem run_eq_len13 (xs ys : List Int) (h1 : xs.length = 13) (h2 : ys.length = 13) (w : World) : (Op.equal 139 (.agg (aggA xs)) (.agg (aggA ys))).run Try.prog w = .ok (decide (xs = ys)) w := by
  obtain ⟨i, hi⟩ := infoInt
  show (Op.equalIn (9999 + 1) 139 _ _).run Try.prog w = _
  rw [run_equalIn_array w 9999 _ _ Try.underlying139 hi, cellsInt, eqItems_ints xs ys 9998 w _ fun i hi => by rw [List.mem_range] at hi; omega, all_eq h1 h2]
/-- a block that holds marks -/
def Arr (W : World) (c : Nat) (xs : List Int) : Prop := W.heap[c]? = some (.cells (aggA xs) 139 (0, 0))
theorem Arr.range {W : World} {c : Nat} {xs : List Int} (h : Arr W c xs) : W.rangeAt c 0 (xs.map (Value.int .i64)) := fun j v hj => by
  rw [Nat.zero_add]
  simpa [World.cell?, show W.heap[c]? = _ from h, aggA] using hj
theorem Arr.kept {W W' : World} {c : Nat} {xs : List Int} {row : Option Nat} (h : Arr W c xs) (hg : W.grownBy W' row) (hne : some c ≠ row) : Arr W' c xs := (hg.block c (Array.getElem?_eq_some_iff.1 h).1 hne).trans h
theorem Arr.lt {W : World} {c : Nat} {xs : List Int} (h : Arr W c xs) : c < W.heap.size := (Array.getElem?_eq_some_iff.1 h).1
theorem Arr.lin {W : World} {c : Nat} {xs : List Int} : Arr W c xs ↔ Lin W c 139 (xs.map (Value.int .i64)) := Iff.rfl
theorem Arr.later {W : World} {c : Nat} {xs : List Int} (h : Arr W c xs) (x : Later W) : Arr x.w c xs := h.kept x.grown (by simp)
theorem Arr.cell {W : World} {c : Nat} {xs : List Int} (h : Arr W c xs) {k : Nat} (hk : k < xs.length) : W.cell? ⟨c, k, none⟩ = some (.int .i64 (nth xs k)) := Lin.cell (cs := xs.map (Value.int .i64)) h (by simp [hk, nth])
theorem Arr.frozen {W : World} {c : Nat} {xs : List Int} (h : Arr W c xs) (k : Nat) : W.frozen? ⟨c, k, none⟩ = false := Lin.frozen (cs := xs.map (Value.int .i64)) h k
theorem Arr.set {W : World} {c : Nat} {xs : List Int} (h : Arr W c xs) (k : Nat) (y : Int) : Arr (W.setCell ⟨c, k, none⟩ (.int .i64 y)) c (xs.set k y) := by
  have := Lin.set (cs := xs.map (Value.int .i64)) h k (.int .i64 y)
  rw [← List.map_set] at this
  exact this
section
variable {ops : Array Oper} {rest : List Oper} {op : Oper} {a : Act} {Q : Exit → Act → World → Prop}
theorem marks_size {xs : List Int} (h : xs.length = 13) : (Try.prog.info? 139).map (·.size) = some (xs.map (Value.int .i64)).length := by rw [List.length_map, h]; kernel_rfl
theorem wpList_load_len13 {w : World} (hgd : op.guard = none) (x : Operand) (ho : op.op = .load 139 x) (b o : Nat) (hx : a.eval x = .pointer (some ⟨b, o, none⟩)) (xs : List Int) (hl : xs.length = 13) (hc : w.rangeAt b o (xs.map (Value.int .i64)))
    (h : wpList Try.prog ops Q rest (a.put op.dst (.agg (aggA xs))) w) : wpList Try.prog ops Q (op :: rest) a w :=
  wpList_load_mid hgd _ x ho b o hx _ _ hc Try.underlying139 rfl (marks_size hl) h
theorem wpList_store_len13 {w : World} (hgd : op.guard = none) (x y : Operand) (ho : op.op = .store 139 x y) {c : Array Value} (hx : a.eval x = .pointer (some ⟨w.heap.size, 0, none⟩)) (xs : List Int) (hy : a.eval y = .agg (aggA xs)) (hl : xs.length = 13) (hsz : c.size = 13)
    (h : ∀ w' : World, Arr w' w.heap.size xs → (∃ x : Later w, x.w = w') → wpList Try.prog ops Q rest (a.put op.dst undef) w') : wpList Try.prog ops Q (op :: rest) a (w.alloc (.cells c 139)) :=
  wpList_plain hgd fun _ hK => by
    unfold Oper.wp execOp
    simp only [ho, hx, hy, Sem.run_bind]
    rw [run_storeAt_new w _ c (aggA xs) (by simp only [aggA, List.size_toArray]; exact marks_size hl) (by simp [aggA, hl, hsz]) (by
      rw [Array.all_eq_true_iff_forall_mem]
      intro v hv
      simp only [aggA, List.mem_toArray, List.mem_map] at hv
      obtain ⟨y, _, rfl⟩ := hv
      rfl)]
    simp only [Result.andThen_ok, Sem.run_pure]
    exact hK _ _ (h _ (World.alloc_heap_new w _) ⟨Later.new _ _, rfl⟩)
theorem quiet_load_len13 {C : World → Prop} {K : Act → Prop} (x : Operand) (ho : op.op = .load 139 x) (b o : Nat) (hx : a.eval x = .pointer (some ⟨b, o, none⟩)) (xs : List Int) (hl : xs.length = 13) (hc : ∀ w, C w → w.rangeAt b o (xs.map (Value.int .i64)))
    (h : K (a.put op.dst (.agg (aggA xs)))) : op.quiet Try.prog a C K :=
  ⟨_, fun w hw => by
    unfold Oper.quietAt execOp
    simp only [ho, hx, Instr.loadAt, Instr.sureAddr, Sem.run_bind, Sem.run_pure, Result.andThen_ok, run_loadVar_mid w b o _ _ _ (hc w hw) Try.underlying139 rfl (marks_size hl)]
    exact ⟨rfl, rfl⟩, h⟩
theorem quiet_eq_len13 {C : World → Prop} {K : Act → Prop} (x y : Operand) (t' : TypeId) (ho : op.op = .binOp .eql 139 x y t') (xs ys : List Int) (hx : a.eval x = .agg (aggA xs)) (hy : a.eval y = .agg (aggA ys)) (hl : xs.length = 13) (hl' : ys.length = 13)
    (h : K (a.put op.dst (.bool (decide (xs = ys))))) : op.quiet Try.prog a C K :=
  ⟨_, fun w _ => by
    have hg : (eqGuard .eql 139 x y (.agg (aggA xs)) (.agg (aggA ys))).run Try.prog w = .ok () w := by
      have he : Try.prog.eqGuardType Try.prog.depth 139 = false := by kernel_rfl
      simp [eqGuard, he]
    unfold Oper.quietAt execOp
    simp only [ho, hx, hy, Sem.run_bind, hg, Result.andThen_ok]
    rw [show binOp .eql 139 (.agg (aggA xs)) (.agg (aggA ys)) = (do pure (.bool (← Op.equal 139 (.agg (aggA xs)) (.agg (aggA ys))))) from rfl]
    simp only [Sem.run_bind, run_eq_len13 xs ys hl hl', Result.andThen_ok, Sem.run_pure]
    exact ⟨rfl, rfl⟩, h⟩
end
end Go.Proofs.Ytpkgfkeekcgkcaa

/-  Keys of the map of labels; what the map holds. -/
namespace Go.Proofs.Ytpkgfkeekcgkcaa
open Go.RowKit
namespace Tb
section
variable {κ ν : Type} [DecidableEq κ] {P : Program} {kt : TypeId} {key : κ → Value} {val : ν → Value}
omit [DecidableEq κ] in
theorem Tab.same {w w' : World} {b : Nat} {M : List (κ × ν)} (h : Tab key val w b M) (hb : w'.heap[b]? = w.heap[b]?) : Tab key val w' b M := by
  obtain ⟨es, clock, h1, h2⟩ := h
  exact ⟨es, clock, hb.trans h1, h2⟩
end
end Tb
abbrev PK := Int × Int
abbrev PM := List (PK × Int)
def keyV (p : PK) : Value := .agg #[.int .i64 p.1, .int .i64 p.2]
def numV (n : Int) : Value := .int .i64 n
set_option maxHeartbeats 1000000 in
theorem match_keys : Tb.KeyOK Try.prog 103 keyV where
  eq := fun w a b => by
    show (Op.equalIn (9999 + 1) 103 (.agg #[.int .i64 a.1, .int .i64 a.2]) (.agg #[.int .i64 b.1, .int .i64 b.2])).run Try.prog w = _
    rw [run_equalIn_agg w 9999 _ _ _ (by kernel_rfl) (by kernel_rfl)]
    have hf : (Try.prog.fieldsOf 103).toList = [{ name := "i", type := 3, offset := 0, embedded := false, tag := "", pkgPath := "burin/proof", byteOffset := 0 }, { name := "j", type := 3, offset := 1, embedded := false, tag := "", pkgPath := "burin/proof", byteOffset := 8 }] := by kernel_rfl
    rw [hf]
    obtain ⟨a1, a2⟩ := a
    obtain ⟨b1, b2⟩ := b
    have e3 := Try.underlying3
    simp [go_sem, part, run_equalIn_int]
    by_cases h1 : a1 = b1 <;> by_cases h2 : a2 = b2 <;> simp [h1, h2]
  chk := fun w e a => by
    have e3 : ∀ x : Int, (Instr.checkKey e 9999 3 (.int .i64 x)).run Try.prog w = .ok () w := fun x => by
      rw [show (9999 : Nat) = 9998 + 1 from rfl, Instr.checkKey, Sem.run_bind, run_underlying Try.underlying3, Result.andThen_ok]
      rfl
    show (Instr.checkKey e (9999 + 1) 103 (.agg #[.int .i64 a.1, .int .i64 a.2])).run Try.prog w = _
    rw [Instr.checkKey, Sem.run_bind, run_underlying Try.underlying103, Result.andThen_ok]
    simp only []
    rw [← Array.forIn_toList]
    simp [go_sem, part, e3]
  desc := ⟨_, Try.underlying103, fun a b => rfl⟩
  bits := fun a => by simp [keyV, Instr.sameBits]

theorem setCell_same {w : World} {b k : Nat} {v : Value} (h : w.cell? ⟨b, k, none⟩ = some v) : w.setCell ⟨b, k, none⟩ v = w := by
  have hb : b < w.heap.size := World.block_lt_of_cell? _ _ h
  have : (w.setCell ⟨b, k, none⟩ v).heap = w.heap := by
    refine Array.ext (by simp [World.setCell]) fun i h1 h2 => ?_
    by_cases e : i = b
    · subst e
      simp only [World.setCell, Array.getElem_modify_self]
      simp only [World.cell?, Array.getElem?_eq_getElem h2] at h
      cases ho : w.heap[i] with
      | cells cs T z =>
        rw [ho] at h
        simp at h
        simp only [Option.isSome_none, Bool.false_eq_true, if_false, Obj.cells.injEq, and_true]
        obtain ⟨hk, rfl⟩ := Array.getElem?_eq_some_iff.1 h
        rw [Array.setIfInBounds, dif_pos hk]
        exact Array.set_getElem_self hk
      | _ => rfl
    · simp [World.setCell, Array.getElem_modify, Ne.symm e]
  have e : w.setCell ⟨b, k, none⟩ v = { w with heap := (w.setCell ⟨b, k, none⟩ v).heap } := rfl
  rw [e, this]
theorem setCells_same {b : Nat} {v : Value} (n : Nat) : ∀ {o : Nat} {w : World}, (∀ j, j < n → w.cell? ⟨b, o + j, none⟩ = some v) → w.setCells b o (List.replicate n v) = w := by
  induction n with
  | zero => intro o w _; rfl
  | succ n ih =>
    intro o w h
    have h0 := h 0 (by omega)
    rw [Nat.add_zero] at h0
    rw [List.replicate_succ, World.setCells, setCell_same h0]
    exact ih fun j hj => by rw [show o + 1 + j = o + (j + 1) by omega]; exact h (j + 1) (by omega)
theorem grownBy_setMap {U : World} {m : Nat} (o : Obj) : U.grownBy (Tb.setMap U m o) (some m) := ⟨rfl, rfl, rfl, by rw [Tb.setMap_size]; exact Nat.le_refl _, fun j _ hne => Tb.setMap_other (fun e => hne (by rw [e]))⟩
theorem grown_up {U V : World} {r : Option Nat} (h : U.grownBy V none) : U.grownBy V r := ⟨h.os, h.tape, h.output, h.size, fun k hk _ => h.block k hk (by simp)⟩
theorem grown_trans {U V X : World} {r : Option Nat} (h1 : U.grownBy V r) (h2 : V.grownBy X r) : U.grownBy X r := ⟨h2.os.trans h1.os, h2.tape.trans h1.tape, h2.output.trans h1.output, Nat.le_trans h1.size h2.size, fun k hk hne => (h2.block k (Nat.lt_of_lt_of_le hk h1.size) hne).trans (h1.block k hk hne)⟩
end Go.Proofs.Ytpkgfkeekcgkcaa

/-  The program's pair: what newPair lays, with no program in sight. -/
namespace Go.Proofs.Ytpkgfkeekcgkcaa
open Go.RowKit
open Lcs (lc ch)
/-- the labels of the matches of the first i rows and of the first j of the next -/
def labO (a b : List UInt8) (i j : Nat) (p : Int × Int) : Option Int :=
  if 0 ≤ p.1 ∧ 0 ≤ p.2 ∧ (p.1 < i ∨ p.1 = i ∧ p.2 < j) ∧ p.2 < b.length ∧ ch a p.1.toNat = ch b p.2.toNat then some ((lc a b p.1.toNat p.2.toNat + 1 : Nat) : Int) else none
theorem labO_zero (a b : List UInt8) (p : Int × Int) : labO a b 0 0 p = none := by rw [labO, if_neg]; omega
theorem labO_row (a b : List UInt8) (i : Nat) (p : Int × Int) : labO a b i b.length p = labO a b (i + 1) 0 p := by
  rw [labO, labO]
  congr 1
  exact propext ⟨fun h => ⟨h.1, h.2.1, by omega, h.2.2.2⟩, fun h => ⟨h.1, h.2.1, by omega, h.2.2.2⟩⟩
theorem labO_no {a b : List UInt8} {i j : Nat} (h : ch a i ≠ ch b j) (p : Int × Int) : labO a b i (j + 1) p = labO a b i j p := by
  rw [labO, labO]
  congr 1
  refine propext ⟨fun h2 => ⟨h2.1, h2.2.1, ?_, h2.2.2.2⟩, fun h2 => ⟨h2.1, h2.2.1, by omega, h2.2.2.2⟩⟩
  rcases h2.2.2.1 with h3 | h3
  · exact .inl h3
  · refine .inr ⟨h3.1, ?_⟩
    have : p.2 ≠ (j : Int) := fun e => h (by have h4 := h2.2.2.2.2; rw [h3.1, e, Int.toNat_natCast, Int.toNat_natCast] at h4; exact h4)
    omega
theorem labO_yes {a b : List UInt8} {i j : Nat} (hj : j < b.length) (h : ch a i = ch b j) (p : Int × Int) : labO a b i (j + 1) p = if p = ((i : Int), (j : Int)) then some ((lc a b i j + 1 : Nat) : Int) else labO a b i j p := by
  obtain ⟨x, y⟩ := p
  by_cases e : x = (i : Int) ∧ y = (j : Int)
  · obtain ⟨rfl, rfl⟩ := e
    have hc : 0 ≤ (i : Int) ∧ 0 ≤ (j : Int) ∧ ((i : Int) < i ∨ (i : Int) = i ∧ (j : Int) < (j + 1 : Nat)) ∧ (j : Int) < b.length ∧ ch a (i : Int).toNat = ch b (j : Int).toNat := by
      refine ⟨by omega, by omega, .inr ⟨rfl, by omega⟩, by omega, ?_⟩
      rw [Int.toNat_natCast, Int.toNat_natCast]; exact h
    rw [labO, if_pos rfl, if_pos hc, Int.toNat_natCast, Int.toNat_natCast]
  · have e' : ¬ (x, y) = ((i : Int), (j : Int)) := fun h => e (by simpa using h)
    rw [if_neg e', labO, labO]
    congr 1
    refine propext ⟨fun h2 => ⟨h2.1, h2.2.1, ?_, h2.2.2.2⟩, fun h2 => ⟨h2.1, h2.2.1, ?_, h2.2.2.2⟩⟩
    · rcases h2.2.2.1 with h3 | h3
      · exact .inl h3
      · refine .inr ⟨h3.1, ?_⟩
        have h4 := h3.2
        have h5 := h3.1
        dsimp only at h4 h5 ⊢
        omega
    · have h4 := h2.2.2.1
      dsimp only at h4 ⊢
      omega
/-- the row of the table behind i letters; and as far as the j-th letter of the next -/
def rowV (a b : List UInt8) (i : Nat) : List Int := (List.range 13).map fun y => if y ≤ b.length then ((lc a b i y : Nat) : Int) else 0
def upV (a b : List UInt8) (i j : Nat) : List Int := (List.range 13).map fun y => if y ≤ b.length then (((if y ≤ j then lc a b (i + 1) y else lc a b i y) : Nat) : Int) else 0
theorem rowV_len (a b : List UInt8) (i : Nat) : (rowV a b i).length = 13 := by simp [rowV]
theorem upV_len (a b : List UInt8) (i j : Nat) : (upV a b i j).length = 13 := by simp [upV]
theorem rowV_nth {a b : List UInt8} {i y : Nat} (hb : b.length ≤ 12) (h : y ≤ b.length) : nth (rowV a b i) y = (lc a b i y : Nat) := by
  simp [nth, rowV, List.getElem?_range (show y < 13 by omega), h]
theorem upV_nth {a b : List UInt8} {i j y : Nat} (hb : b.length ≤ 12) (h : y ≤ b.length) : nth (upV a b i j) y = ((if y ≤ j then lc a b (i + 1) y else lc a b i y : Nat) : Int) := by
  simp [nth, upV, List.getElem?_range (show y < 13 by omega), h]
theorem rowV_zero (a b : List UInt8) : rowV a b 0 = List.replicate 13 0 := by
  rw [rowV, List.eq_replicate_iff]
  refine ⟨by simp, fun x hx => ?_⟩
  obtain ⟨y, _, rfl⟩ := List.mem_map.1 hx
  rw [Lcs.zero_lc]; simp
theorem upV_zero (a b : List UInt8) (i : Nat) : upV a b i 0 = rowV a b i := by
  rw [upV, rowV]
  refine List.map_congr_left fun y _ => ?_
  by_cases h : y ≤ 0
  · obtain rfl : y = 0 := by omega
    simp [Lcs.lc_zero]
  · simp [h]
theorem upV_all (a b : List UInt8) (i : Nat) : upV a b i b.length = rowV a b (i + 1) := by
  rw [upV, rowV]
  refine List.map_congr_left fun y _ => ?_
  by_cases h : y ≤ b.length
  · rw [if_pos h, if_pos h, if_pos h]
  · rw [if_neg h, if_neg h]
theorem upV_set {a b : List UInt8} {i j : Nat} (h : j < b.length) (x : Int) : ((upV a b i j).set (j + 1) x).set (j + 1) ((lc a b (i + 1) (j + 1) : Nat) : Int) = upV a b i (j + 1) := by
  rw [List.set_set]
  refine List.ext_getElem (by simp [upV_len]) fun y h1 h2 => ?_
  rw [List.getElem_set]
  have hy : y < 13 := by simpa [upV_len] using h2
  by_cases e : j + 1 = y
  · subst e
    rw [if_pos rfl]
    simp [upV, show j + 1 ≤ b.length by omega]
  · rw [if_neg e]
    simp only [upV, List.getElem_map, List.getElem_range]
    by_cases hyb : y ≤ b.length
    · rw [if_pos hyb, if_pos hyb]
      by_cases hyj : y ≤ j
      · rw [if_pos hyj, if_pos (by omega)]
      · rw [if_neg hyj, if_neg (by omega)]
    · rw [if_neg hyb, if_neg hyb]
theorem upV_set1 {a b : List UInt8} {i j : Nat} (h : j < b.length) : (upV a b i j).set (j + 1) ((lc a b (i + 1) (j + 1) : Nat) : Int) = upV a b i (j + 1) := by
  have := upV_set (a := a) (i := i) h 0
  rwa [List.set_set] at this
/-- a pair that is laid: its block p, its map m -/
structure Pair (lo : Nat) (U : World) (p m : Nat) (a b : List UInt8) (M : PM) : Prop where
  lp : lo ≤ p
  lm : lo ≤ m
  blk : Lin U p 114 [.string ⟨a.toArray⟩, .string ⟨b.toArray⟩, .map (some m)]
  tab : Tb.Tab keyV numV U m M
section
variable {lo : Nat} {U : World} {p m : Nat} {a b : List UInt8} {M : PM}
theorem Pair.ne (h : Pair lo U p m a b M) : p ≠ m := fun e => by
  obtain ⟨es, c, h1, _⟩ := h.tab
  have h2 := h.blk
  rw [Lin, e, h1] at h2
  cases h2
theorem Pair.later (h : Pair lo U p m a b M) (x : Later U) : Pair lo x.w p m a b M := ⟨h.lp, h.lm, h.blk.later x, h.tab.later x⟩
theorem Pair.kept (h : Pair lo U p m a b M) {U' : World} {r : Option Nat} (hg : U.grownBy U' r) (h1 : some p ≠ r) (h2 : some m ≠ r) : Pair lo U' p m a b M :=
  ⟨h.lp, h.lm, h.blk.kept hg h1, h.tab.same (hg.block m h.tab.lt h2)⟩
theorem Pair.mono (h : Pair lo U p m a b M) {lo' : Nat} (hl : lo' ≤ lo) : Pair lo' U p m a b M := ⟨Nat.le_trans hl h.lp, Nat.le_trans hl h.lm, h.blk, h.tab⟩
theorem Pair.map (h : Pair lo U p m a b M) {o : Obj} {M' : PM} (hT : Tb.Tab keyV numV (Tb.setMap U m o) m M') : Pair lo (Tb.setMap U m o) p m a b M' :=
  ⟨h.lp, h.lm, h.blk.kept (grownBy_setMap o) (fun e => h.ne (Option.some.inj e)), hT⟩
end
/-- .. and the row beside it, while it is being laid -/
structure Np (W U : World) (p m ub : Nat) (a b : List UInt8) (M : PM) (X : List Int) : Prop where
  le : Below W.heap.size W U
  pr : Pair W.heap.size U p m a b M
  up : Arr U ub X
  lu : W.heap.size ≤ ub
section
variable {W U : World} {p m ub : Nat} {a b : List UInt8} {M : PM} {X : List Int}
theorem Np.ne (h : Np W U p m ub a b M X) : p ≠ ub ∧ m ≠ ub := by
  refine ⟨fun e => ?_, fun e => ?_⟩
  · have h1 := h.pr.blk
    rw [Lin, e, show U.heap[ub]? = _ from h.up] at h1
    exact absurd (Obj.cells.inj (Option.some.inj h1)).2.1 (by decide)
  · obtain ⟨es, c, h1, _⟩ := h.pr.tab
    rw [e, show U.heap[ub]? = _ from h.up] at h1
    cases h1
theorem Np.later (h : Np W U p m ub a b M X) (x : Later U) : Np W x.w p m ub a b M X := ⟨h.le.trans (x.le.mono h.le.size), h.pr.later x, h.up.later x, h.lu⟩
theorem Np.map (h : Np W U p m ub a b M X) {o : Obj} {M' : PM} (hT : Tb.Tab keyV numV (Tb.setMap U m o) m M') : Np W (Tb.setMap U m o) p m ub a b M' X :=
  ⟨h.le.grown (grownBy_setMap o) h.le.size (fun k e => by cases e; exact h.pr.lm), h.pr.map hT, h.up.kept (grownBy_setMap o) (fun e => h.ne.2 (Option.some.inj e).symm), h.lu⟩
theorem Np.set (h : Np W U p m ub a b M X) (k : Nat) (y : Int) : Np W (U.setCell ⟨ub, k, none⟩ (.int .i64 y)) p m ub a b M (X.set k y) :=
  ⟨h.le.setCell (p := ⟨ub, k, none⟩) h.lu _, h.pr.kept (grownBy_setCell_at U ub k _) (fun e => h.ne.1 (Option.some.inj e)) (fun e => h.ne.2 (Option.some.inj e)), h.up.set k y, h.lu⟩
end
theorem run_clear_len (U : World) (c : Nat) (h : Arr U c (List.replicate 13 0)) (ty : TypeId) :
    (Builtin.clear_ #[22] ty #[.slice (some ⟨c, 0, none⟩) 13 13]).run Try.prog U = .ok (.tuple #[]) U := by
  have hc : ∀ j, j < 13 → U.cell? ⟨c, 0 + j, none⟩ = some (.int .i64 0) := fun j hj => by
    rw [Nat.zero_add, h.cell (by simpa using hj), nth, List.getD_eq_getElem?_getD, List.getElem?_replicate, if_pos hj]; rfl
  rw [Lib.run_clear_slice _ 22 3 ty (.int .i64 0) Try.underlying22 (fun w => by kernel_rfl) rfl rfl _ 0 13 13 (by decide) (fun j hj => by rw [hc j hj]; rfl) (fun j hj => h.frozen _), setCells_same 13 hc]
theorem look_get (M : PM) (k : PK) {v : Option Int} (h : Tb.get M k = v) : ((Tb.get M k).map numV).getD (.int .i64 0) = .int .i64 (v.getD 0) := by rw [h]; cases v <;> rfl
def PairN (a b : List UInt8) (W : World) (e : Ending) (w' : World) : Prop := ∃ p m M, ∃ x : Later W, e = .returned (.pointer (some ⟨p, 0, none⟩)) ∧ w' = x.w ∧ Pair W.heap.size x.w p m a b M ∧ ∀ k, Tb.get M k = labO a b a.length 0 k
end Go.Proofs.Ytpkgfkeekcgkcaa

/-  The program's newPair. -/
namespace Go.Proofs.Ytpkgfkeekcgkcaa
open Go.RowKit
open Lcs (lc ch)
theorem wpList_eq_len13 {ops : Array Oper} {rest : List Oper} {op : Oper} {a : Act} {Q : Exit → Act → World → Prop} {w : World} (hgd : op.guard = none) (x y : Operand) (t' : TypeId) (ho : op.op = .binOp .eql 139 x y t') (xs ys : List Int) (hx : a.eval x = .agg (aggA xs)) (hy : a.eval y = .agg (aggA ys)) (hl : xs.length = 13) (hl' : ys.length = 13)
    (h : wpList Try.prog ops Q rest (a.put op.dst (.bool (decide (xs = ys)))) w) : wpList Try.prog ops Q (op :: rest) a w :=
  wpList_plain hgd fun _ hK => by
    have hg : (eqGuard .eql 139 x y (.agg (aggA xs)) (.agg (aggA ys))).run Try.prog w = .ok () w := by
      have he : Try.prog.eqGuardType Try.prog.depth 139 = false := by kernel_rfl
      simp [eqGuard, he]
    unfold Oper.wp execOp
    simp only [ho, hx, hy, Sem.run_bind, hg, Result.andThen_ok]
    rw [show binOp .eql 139 (.agg (aggA xs)) (.agg (aggA ys)) = (do pure (.bool (← Op.equal 139 (.agg (aggA xs)) (.agg (aggA ys))))) from rfl]
    simp only [Sem.run_bind, run_eq_len13 xs ys hl hl', Result.andThen_ok, Sem.run_pure]
    exact hK _ _ h
theorem nth_set {l : List Int} {i : Nat} {x : Int} {j : Nat} (hi : i < l.length) : nth (l.set i x) j = if j = i then x else nth l j := by
  simp only [nth, List.getD_eq_getElem?_getD, List.getElem?_set]
  by_cases h : i = j
  · subst h; simp [hi]
  · rw [if_neg h, if_neg (fun e => h e.symm)]
theorem lc_le' (a b : List UInt8) : ∀ i j, lc a b i j ≤ j
  | _, 0 => by rw [Lcs.lc_zero]; exact Nat.le_refl _
  | i, j + 1 => Nat.le_trans (Lcs.lc_step a b i j).2.2 (Nat.succ_le_succ (lc_le' a b i j))
set_option maxRecDepth 100000 in
set_option maxHeartbeats 8000000 in
theorem newPair_calls (a b : List UInt8) (ha : a.length ≤ 12) (hb : b.length ≤ 12) (W : World) :
    Calls Try.prog 89 #[.string ⟨a.toArray⟩, .string ⟨b.toArray⟩] W (PairN a b W) := by
  have hmm := @run_makeMap Try.prog
  obtain ⟨n, hn⟩ : ∃ n, a.length = n := ⟨_, rfl⟩
  obtain ⟨m0, hm0⟩ : ∃ n, b.length = n := ⟨_, rfl⟩
  have HB12 := Lib.hid hb
  have ha12 : n ≤ 12 := by omega
  have hb12 : m0 ≤ 12 := by omega
  have HN := Lib.hid hn
  have HM := Lib.hid hm0
  have hsa : (⟨a.toArray⟩ : ByteArray).size = n := by rw [str_size]; exact hn
  have hsb : (⟨b.toArray⟩ : ByteArray).size = m0 := by rw [str_size]; exact hm0
  clear hn hm0 ha hb
  have hN0 : Np W (((W.alloc (.map #[] 0)).alloc (.cells #[.string ⟨a.toArray⟩, .string ⟨b.toArray⟩, .map (some W.heap.size)] 114)).alloc (.cells #[.int .i64 0, .int .i64 0, .int .i64 0, .int .i64 0, .int .i64 0, .int .i64 0, .int .i64 0, .int .i64 0, .int .i64 0, .int .i64 0, .int .i64 0, .int .i64 0, .int .i64 0] 139)) (W.heap.size + 1) W.heap.size (W.heap.size + 1 + 1) a b [] (rowV a b 0) := by
    refine ⟨(((Later.new _ _).step (Later.new _ _)).step (Later.new _ _)).le, ⟨by omega, Nat.le_refl _, ?_, ?_⟩, ?_, by omega⟩
    · refine Lin.later (x := Later.new _ _) ?_
      exact (congrArg _ (by simp)).trans (World.alloc_heap_new _ _)
    · refine Tb.Tab.nil _ ?_
      rw [Below.heap_alloc _ _ _ (by simp; omega), Below.heap_alloc _ _ _ (by simp)]
      exact World.alloc_heap_new _ _
    · rw [rowV_zero]
      exact (congrArg _ (by simp)).trans (World.alloc_heap_new _ _)
  have hclr := run_clear_len _ _ (by rw [← rowV_zero a b]; exact hN0.up) 0
  go_enter Try.func89, Try.ntmps89
  go_wp2
  clear hclr hmm
  obtain ⟨z, hz⟩ : ∃ q : Later W, ((W.alloc (.map #[] 0)).alloc (.cells #[.string ⟨a.toArray⟩, .string ⟨b.toArray⟩, .map (some W.heap.size)] 114)).alloc (.cells #[.int .i64 0, .int .i64 0, .int .i64 0, .int .i64 0, .int .i64 0, .int .i64 0, .int .i64 0, .int .i64 0, .int .i64 0, .int .i64 0, .int .i64 0, .int .i64 0, .int .i64 0] 139) = q.w := ⟨((Later.new _ _).step (Later.new _ _)).step (Later.new _ _), rfl⟩
  rw [hz] at hN0 ⊢
  obtain ⟨ub, hub⟩ : ∃ b, W.heap.size + 1 + 1 = b := ⟨_, rfl⟩
  obtain ⟨p, hp⟩ : ∃ b, W.heap.size + 1 = b := ⟨_, rfl⟩
  obtain ⟨m, hm⟩ : ∃ b, W.heap.size = b := ⟨_, rfl⟩
  have HWS := Lib.hid hm
  rw [hub] at hN0 ⊢
  rw [hp] at hN0 ⊢
  try rw [hm]
  rw [hm] at hN0
  have hp' := hp
  clear hz hub hp hm hp'
  go_loopw [7, 8, 18] (fun _ _ i0 wr => ∃ (k : Nat) (M : PM), k ≤ n ∧ i0 = .int .i64 k ∧ Np W wr p m ub a b M (rowV a b k) ∧ Hid (∀ q, Tb.get M q = labO a b k 0 q)) (fun _ _ i0 _ => n - (intOf i0).toNat)
  case atStart => exact ⟨0, [], Nat.zero_le _, rfl, hN0, Lib.hid (fun q => (labO_zero a b q).symm)⟩
  clear hN0 z
  obtain ⟨k, M, hk, rfl, hN, HG⟩ := hrel
  by_cases hlt : k < n
  · obtain ⟨X0, hX0⟩ : ∃ X, rowV a b k = X := ⟨_, rfl⟩
    have HX0 := Lib.hid hX0
    rw [hX0] at hN
    have hl0 : X0.length = 13 := by rw [← hX0, rowV_len]
    have hrn := hN.up.range
    have lu := hN.up.lt
    clear hX0
    go_wp2_with (first | ((with_reducible show wpList _ _ _ (⟨some 21, _, _, _, _, _⟩ :: _) _ _); refine wpList_load_len13 rfl _ rfl ub 0 rfl X0 hl0 hrn ?_) | (refine wpList_store_len13 rfl _ _ rfl rfl X0 rfl hl0 (by simp) ?_; rintro w1 hA1 ⟨x1, rfl⟩; go_frame))
    obtain ⟨sb, hsb0⟩ : ∃ c, c = wr.heap.size := ⟨_, rfl⟩
    rw [← hsb0] at hA1 ⊢
    have hsu : sb ≠ ub := by omega
    have hsm : sb ≠ m := by have := hN.pr.tab.lt; omega
    have hN1 := hN.later x1
    obtain ⟨V, hV⟩ : ∃ V, V = x1.w := ⟨_, rfl⟩
    rw [← hV] at hN1 hA1 ⊢
    clear hV hsb0 x1 hrn hN lu
    go_loopw [9, 24] (fun _ i0 wr => ∃ (q : Nat) (M : PM) (X : List Int), q ≤ m0 ∧ i0 = .int .i64 q ∧ Np W wr p m ub a b M X ∧ Arr wr sb X0 ∧ Hid (X = upV a b k q) ∧ Hid (∀ r, Tb.get M r = labO a b k q r)) (fun _ i0 _ => m0 - (intOf i0).toNat)
    case atStart => exact ⟨0, M, X0, Nat.zero_le _, rfl, hN1, hA1, Lib.hid (by rw [upV_zero, HX0.out]), HG⟩
    clear hN1 hA1 HG
    clear M V
    obtain ⟨q, M, X, hq, rfl, hN, hA, HX, HG⟩ := hrel
    by_cases hqlt : q < m0
    · have hka : k < a.length := by rw [HN.out]; exact hlt
      have hqb : q < b.length := by rw [HM.out]; exact hqlt
      have hia := fun w => run_byte a hka w
      have hib := fun w => run_byte b hqb w
      obtain ⟨L, hL⟩ : ∃ L, lc a b k q = L := ⟨_, rfl⟩
      obtain ⟨y, hy⟩ : ∃ L, lc a b (k + 1) q = L := ⟨_, rfl⟩
      obtain ⟨z, hz⟩ : ∃ L, lc a b k (q + 1) = L := ⟨_, rfl⟩
      obtain ⟨r, hr⟩ : ∃ L, lc a b (k + 1) (q + 1) = L := ⟨_, rfl⟩
      have hLs := Lcs.lc_step a b k q
      have hle := Lcs.lc_max a b k q
      have hr12 : r ≤ 13 := by rw [← hr]; exact Nat.le_trans (lc_le' a b (k + 1) (q + 1)) (by omega)
      rw [hL, hy, hz] at hLs
      rw [hL, hy, hz, hr] at hle
      have hy12 : y ≤ r := by rw [← hy, ← hr]; exact (Lcs.lc_step a b (k + 1) q).2.1
      have hz12 : z ≤ r := by rw [← hz, ← hr]; exact (Lcs.lc_step a b k (q + 1)).1.1
      have hL12 : L ≤ r := by omega
      have sq := hA.cell (k := q) (by rw [hl0]; omega)
      have sq1 := hA.cell (k := q + 1) (by rw [hl0]; omega)
      rw [show nth X0 q = (L : Int) by rw [← HX0.out, rowV_nth HB12.out (by omega), hL]] at sq
      rw [show nth X0 (q + 1) = (z : Int) by rw [← HX0.out, rowV_nth HB12.out (by omega), hz]] at sq1
      have sl := hA.lt
      have HXL : Hid (X.length = 13) := Lib.hid (by rw [HX.out, upV_len])
      have HXy : Hid (nth X q = (y : Int)) := Lib.hid (by rw [HX.out, upV_nth HB12.out (by omega), if_pos (Nat.le_refl _), hy])
      have HXz : Hid (nth X (q + 1) = (z : Int)) := Lib.hid (by rw [HX.out, upV_nth HB12.out (by omega), if_neg (by omega), hz])
      have HZ := Lib.hid (show nth X0 (q + 1) = (z : Int) by rw [← HX0.out, rowV_nth HB12.out (by omega), hz])
      have HR := Lib.hid hr
      have HLv := Lib.hid hL
      clear hL hy hz hr
      by_cases hc : ch a k = ch b q
      · have hcb : (((bt a k).toNat : Int) == ((bt b q).toNat : Int)) = true := by rw [bt_ch, bt_ch, hc]; simp
        have hrv : r = max (max (L + 1) y) z := by rw [hle, if_pos hc]
        have HG2 := Lib.hid (fun t => labO_yes (i := k) hqb hc t)
        have HRV := Lib.hid hrv
        clear hc hle hrv
        have d2 := hN.pr.blk.cell (k := 2) rfl
        have dl := hN.pr.blk.lt
        go_wp2
        refine Mix.region_mixL (Mix.kinds [] [] []) (by kernel_rfl) (by kernel_rfl) ?_
        repeat ((with_reducible refine Mix.atCons ?_); first | refine Mix.skipU (by rfl) rfl (by rfl) ?_ | (refine Mix.val rfl rfl (by rfl) (fun K hK => ?_); go_big_quiet_op; refine hK _ ?_; clear hK K) | (refine Mix.skip (by rfl) ?_; go_frame))
        refine Mix.done (fun x1 => ?_)
        replace hN := hN.later x1
        replace hA := hA.later x1
        replace d2 := hN.pr.blk.cell (k := 2) rfl
        replace dl := hN.pr.blk.lt
        replace sq := (x1.cell sl).trans sq
        replace sq1 := (x1.cell sl).trans sq1
        replace sl := hA.lt
        go_wp2
        refine Mix.region_mixL (Mix.kinds [] [] [11]) (by kernel_rfl) (by kernel_rfl) ?_
        repeat ((with_reducible refine Mix.atCons ?_); first | refine Mix.skipU (by rfl) rfl (by rfl) ?_ | (refine Mix.val rfl rfl (by rfl) (fun K hK => ?_); go_big_quiet_op; refine hK _ ?_; clear hK K) | (refine Mix.skip (by rfl) ?_; go_frame))
        refine Mix.last rfl (by rfl) (fun x8 K8 hK8 => ?_)
        have hN8 := hN.later x8
        have hA8 := hA.later x8
        obtain ⟨o, hrun, hT⟩ := hN8.pr.tab.store match_keys Try.underlying112 ((k : Int), (q : Int)) ((L : Int) + 1)
        simp only [keyV, numV] at hrun
        have HN9 := Lib.hid (hN8.map hT)
        have HA9 := Lib.hid (hA8.kept (grownBy_setMap (U := x8.w) (m := m) o) (fun e => hsm (Option.some.inj e)))
        clear hN8 hA8 hN hA
        go_wp2_with fail
        clear hrun hT
        refine Mix.done (fun x9 => ?_)
        have hN := HN9.out.later x9
        have hA := HA9.out.later x9
        obtain ⟨U, hU⟩ : ∃ U, U = x9.w := ⟨_, rfl⟩
        rw [← hU] at hN hA ⊢
        clear hU HN9 HA9 sq sq1 sl d2 dl
        have HGE : Hid (∀ t, Tb.get (Tb.put M ((k : Int), (q : Int)) ((L : Int) + 1)) t = labO a b k (q + 1) t) := Lib.hid (fun t => by
          rw [Tb.get_put, HG2.out t, HG.out t, HLv.out]; rfl)
        obtain ⟨M2, hM2⟩ : ∃ M2, Tb.put M ((k : Int), (q : Int)) ((L : Int) + 1) = M2 := ⟨_, rfl⟩
        rw [hM2] at hN HGE
        clear hM2
        have sq := hA.cell (k := q) (by rw [hl0]; omega)
        rw [show nth X0 q = (L : Int) by rw [← HX0.out, rowV_nth HB12.out (by omega), HLv.out]] at sq
        have sl := hA.lt
        have u1 := hN.up.cell (k := q + 1) (by rw [HXL.out]; omega)
        have uf := hN.up.frozen (q + 1)
        have ul := hN.up.lt
        have HN9 := Lib.hid (hN.set (q + 1) ((L : Int) + 1))
        have HA9 := Lib.hid (hA.kept (grownBy_setCell_at U ub (q + 1) (.int .i64 ((L : Int) + 1))) (fun e => hsu (Option.some.inj e)))
        clear hN hA
        go_wp2_with fail
        clear sq sl u1 uf ul
        have hN := HN9.out
        have hA := HA9.out
        obtain ⟨U2, hU2⟩ : ∃ U2, U2 = U.setCell ⟨ub, q + 1, none⟩ (.int .i64 ((L : Int) + 1)) := ⟨_, rfl⟩
        rw [← hU2] at hN hA ⊢
        clear hU2 HN9 HA9
        have HX1L : Hid ((X.set (q + 1) ((L : Int) + 1)).length = 13) := Lib.hid (by rw [List.length_set, HXL.out])
        have HX1y : Hid (nth (X.set (q + 1) ((L : Int) + 1)) q = (y : Int)) := Lib.hid (by rw [nth_set, if_neg (by omega)]; exact HXy.out; rw [HXL.out]; omega)
        have HX1z : Hid (nth (X.set (q + 1) ((L : Int) + 1)) (q + 1) = ((L : Int) + 1)) := Lib.hid (by rw [nth_set, if_pos rfl]; rw [HXL.out]; omega)
        have hm1 : (if (if ((L : Int) + 1) < (y : Int) then (y : Int) else ((L : Int) + 1)) < (z : Int) then (z : Int) else (if ((L : Int) + 1) < (y : Int) then (y : Int) else ((L : Int) + 1))) = (r : Int) := by have := HRV.out; split <;> split <;> omega
        have HXE : Hid ((X.set (q + 1) ((L : Int) + 1)).set (q + 1) (r : Int) = upV a b k (q + 1)) := Lib.hid (by rw [HX.out, ← HR.out]; exact upV_set hqb _)
        obtain ⟨X1, hX1⟩ : ∃ X1, X.set (q + 1) ((L : Int) + 1) = X1 := ⟨_, rfl⟩
        rw [hX1] at hN HX1L HX1y HX1z HXE
        clear hX1
        have u1 := hN.up.cell (k := q + 1) (by rw [HX1L.out]; omega)
        have u0 := hN.up.cell (k := q) (by rw [HX1L.out]; omega)
        rw [HX1z.out] at u1
        rw [HX1y.out] at u0
        have sq1 := hA.cell (k := q + 1) (by rw [hl0]; omega)
        rw [HZ.out] at sq1
        have sl := hA.lt
        have ul := hN.up.lt
        go_wp2
        refine Mix.region_mixL (Mix.kinds [] [] [15]) (by kernel_rfl) (by kernel_rfl) ?_
        repeat ((with_reducible refine Mix.atCons ?_); first | refine Mix.skipU (by rfl) rfl (by rfl) ?_ | (refine Mix.val rfl rfl (by rfl) (fun K hK => ?_); go_big_quiet_op; refine hK _ ?_; clear hK K) | (refine Mix.skip (by rfl) ?_; go_frame))
        refine Mix.valY rfl (by rfl) (.int .i64 (r : Int)) (fun w' => by simp [go_sem, hm1]) ?_
        try go_frame
        repeat ((with_reducible refine Mix.atCons ?_); first | refine Mix.skipU (by rfl) rfl (by rfl) ?_ | (refine Mix.val rfl rfl (by rfl) (fun K hK => ?_); go_big_quiet_op; refine hK _ ?_; clear hK K) | (refine Mix.skip (by rfl) ?_; go_frame))
        refine Mix.last rfl (by rfl) (fun x8 K8 hK8 => ?_)
        have hN8 := hN.later x8
        clear u1 u0 sq1 sl ul
        have u1 := hN8.up.cell (k := q + 1) (by rw [HX1L.out]; omega)
        have uf := hN8.up.frozen (q + 1)
        have ul := hN8.up.lt
        have HN9 := Lib.hid (hN8.set (q + 1) (r : Int))
        have HA9 := Lib.hid ((hA.later x8).kept (grownBy_setCell_at x8.w ub (q + 1) (.int .i64 (r : Int))) (fun e => hsu (Option.some.inj e)))
        clear hN8 hN hA
        go_wp2_with fail
        clear u1 uf ul
        refine Mix.done (fun x9 => ?_)
        have HN10 := Lib.hid (HN9.out.later x9)
        have HA10 := Lib.hid (HA9.out.later x9)
        clear HN9 HA9
        go_wp2
        go_roundw
        case rel => first | exact ⟨q + 1, _, _, by omega, by go_num, HN10.out, HA10.out, HXE, HGE⟩ | ((repeat apply Exists.intro); exact ⟨⟨q + 1, _, _, by omega, by go_num, HN10.out, HA10.out, HXE, HGE⟩, rfl⟩)
        case measure => simp [intOf] <;> omega
      · have hcb : (((bt a k).toNat : Int) == ((bt b q).toNat : Int)) = false := by rw [bt_ch, bt_ch]; simp; exact fun e => hc (UInt8.toNat_inj.1 (by exact_mod_cast e))
        have hrv : r = max (max 0 y) z := by rw [hle, if_neg hc]
        have HG2 := Lib.hid (fun t => labO_no (i := k) hc t)
        have HRV := Lib.hid hrv
        clear hc hle hrv
        have d2 := hN.pr.blk.cell (k := 2) rfl
        have dl := hN.pr.blk.lt
        go_wp2
        refine Mix.region_mixL (Mix.kinds [] [] []) (by kernel_rfl) (by kernel_rfl) ?_
        repeat ((with_reducible refine Mix.atCons ?_); first | refine Mix.skipU (by rfl) rfl (by rfl) ?_ | (refine Mix.val rfl rfl (by rfl) (fun K hK => ?_); go_big_quiet_op; refine hK _ ?_; clear hK K) | (refine Mix.skip (by rfl) ?_; go_frame))
        refine Mix.done (fun x1 => ?_)
        replace hN := hN.later x1
        replace hA := hA.later x1
        replace d2 := hN.pr.blk.cell (k := 2) rfl
        replace dl := hN.pr.blk.lt
        replace sq := (x1.cell sl).trans sq
        replace sq1 := (x1.cell sl).trans sq1
        replace sl := hA.lt
        clear sq sq1 sl d2 dl
        have HX1L := HXL
        have HX1y := HXy
        have HX1z := HXz
        have hm1 : (if (if (z : Int) < (y : Int) then (y : Int) else (z : Int)) < (z : Int) then (z : Int) else (if (z : Int) < (y : Int) then (y : Int) else (z : Int))) = (r : Int) := by have := HRV.out; split <;> split <;> omega
        have hm2 : (if (if z < y then (y : Int) else (z : Int)) < (z : Int) then (z : Int) else (if z < y then (y : Int) else (z : Int))) = (r : Int) := by have := HRV.out; split <;> split <;> omega
        have HXE : Hid (X.set (q + 1) (r : Int) = upV a b k (q + 1)) := Lib.hid (by rw [HX.out, ← HR.out]; exact upV_set1 hqb)
        have HGE : Hid (∀ t, Tb.get M t = labO a b k (q + 1) t) := Lib.hid (fun t => by rw [HG2.out t, HG.out t])
        have u1 := hN.up.cell (k := q + 1) (by rw [HX1L.out]; omega)
        have u0 := hN.up.cell (k := q) (by rw [HX1L.out]; omega)
        rw [HX1z.out] at u1
        rw [HX1y.out] at u0
        have sq1 := hA.cell (k := q + 1) (by rw [hl0]; omega)
        rw [HZ.out] at sq1
        have sl := hA.lt
        have ul := hN.up.lt
        go_wp2
        refine Mix.region_mixL (Mix.kinds [] [] [15]) (by kernel_rfl) (by kernel_rfl) ?_
        repeat ((with_reducible refine Mix.atCons ?_); first | refine Mix.skipU (by rfl) rfl (by rfl) ?_ | (refine Mix.val rfl rfl (by rfl) (fun K hK => ?_); go_big_quiet_op; refine hK _ ?_; clear hK K) | (refine Mix.skip (by rfl) ?_; go_frame))
        refine Mix.valY rfl (by rfl) (.int .i64 (r : Int)) (fun w' => by simp [go_sem, hm2]) ?_
        try go_frame
        repeat ((with_reducible refine Mix.atCons ?_); first | refine Mix.skipU (by rfl) rfl (by rfl) ?_ | (refine Mix.val rfl rfl (by rfl) (fun K hK => ?_); go_big_quiet_op; refine hK _ ?_; clear hK K) | (refine Mix.skip (by rfl) ?_; go_frame))
        refine Mix.last rfl (by rfl) (fun x8 K8 hK8 => ?_)
        have hN8 := hN.later x8
        clear u1 u0 sq1 sl ul
        have u1 := hN8.up.cell (k := q + 1) (by rw [HX1L.out]; omega)
        have uf := hN8.up.frozen (q + 1)
        have ul := hN8.up.lt
        have HN9 := Lib.hid (hN8.set (q + 1) (r : Int))
        have HA9 := Lib.hid ((hA.later x8).kept (grownBy_setCell_at x8.w ub (q + 1) (.int .i64 (r : Int))) (fun e => hsu (Option.some.inj e)))
        clear hN8 hN hA
        go_wp2_with fail
        clear u1 uf ul
        refine Mix.done (fun x9 => ?_)
        have HN10 := Lib.hid (HN9.out.later x9)
        have HA10 := Lib.hid (HA9.out.later x9)
        clear HN9 HA9
        go_wp2
        go_roundw
        case rel => first | exact ⟨q + 1, _, _, by omega, by go_num, HN10.out, HA10.out, HXE, HGE⟩ | ((repeat apply Exists.intro); exact ⟨⟨q + 1, _, _, by omega, by go_num, HN10.out, HA10.out, HXE, HGE⟩, rfl⟩)
        case measure => simp [intOf] <;> omega
    obtain rfl : q = m0 := by omega
    have HXR : Hid (X = rowV a b (k + 1)) := Lib.hid (by rw [HX.out, ← HM.out, upV_all])
    have HGR : Hid (∀ t, Tb.get M t = labO a b (k + 1) 0 t) := Lib.hid (fun t => by rw [HG.out, ← HM.out, labO_row])
    clear HX HG
    have hl1 : X.length = 13 := by rw [HXR.out, rowV_len]
    have hrn := hN.up.range
    have hrs := hA.range
    have lu := hN.up.lt
    have ls := hA.lt
    obtain ⟨B, hB⟩ : ∃ B, decide (X = X0) = B := ⟨_, rfl⟩
    cases B
    · go_wp2_with (first | ((with_reducible show wpList _ _ _ (⟨some 68, _, _, _, _, _⟩ :: _) _ _); refine wpList_load_len13 rfl _ rfl ub 0 rfl X hl1 hrn ?_) | ((with_reducible show wpList _ _ _ (⟨some 69, _, _, _, _, _⟩ :: _) _ _); refine wpList_load_len13 rfl _ rfl sb 0 rfl X0 hl0 hrs ?_) | ((with_reducible show wpList _ _ _ (⟨some 70, _, _, _, _, _⟩ :: _) _ _); refine wpList_eq_len13 rfl _ _ _ rfl X X0 rfl rfl hl1 hl0 ?_; rw [hB]))
      go_roundw
      case rel => first | exact ⟨k + 1, _, by omega, by go_num, by rw [← HXR.out]; exact hN, HGR⟩ | ((repeat apply Exists.intro); exact ⟨⟨k + 1, _, by omega, by go_num, by rw [← HXR.out]; exact hN, HGR⟩, rfl⟩)
      case measure => simp [intOf] <;> omega
    · go_wp2_with (first | ((with_reducible show wpList _ _ _ (⟨some 68, _, _, _, _, _⟩ :: _) _ _); refine wpList_load_len13 rfl _ rfl ub 0 rfl X hl1 hrn ?_) | ((with_reducible show wpList _ _ _ (⟨some 69, _, _, _, _, _⟩ :: _) _ _); refine wpList_load_len13 rfl _ rfl sb 0 rfl X0 hl0 hrs ?_) | ((with_reducible show wpList _ _ _ (⟨some 70, _, _, _, _, _⟩ :: _) _ _); refine wpList_eq_len13 rfl _ _ _ rfl X X0 rfl rfl hl1 hl0 ?_; rw [hB]))
      go_roundw
      case rel => first | exact ⟨k + 1, _, by omega, by go_num, by rw [← HXR.out]; exact hN, HGR⟩ | ((repeat apply Exists.intro); exact ⟨⟨k + 1, _, by omega, by go_num, by rw [← HXR.out]; exact hN, HGR⟩, rfl⟩)
      case measure => simp [intOf] <;> omega
  obtain rfl : n = k := by omega
  go_wp2
  go_ret
  exact ⟨p, m, M, ⟨wr, hN.le⟩, rfl, rfl, hN.pr, fun t => by rw [HN.out]; exact HG.out t⟩
end Go.Proofs.Ytpkgfkeekcgkcaa
