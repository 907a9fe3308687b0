import Derived.Test.YtdhdpbnlhnodjaaKMix
import Derived.WideKeyEntry
import Derived.Test.YtdhdpbnlhnodjaaKOwn
import Derived.Test.YtdhdpbnlhnodjaaKRefA
/-  m[k]++ of a map: the entry is made, then stored into. -/
namespace Go.Proofs.Ytdhdpbnlhnodjaa
open Go.RowKit
namespace Tb
section
variable {κ ν : Type} [DecidableEq κ] {P : Program} {kt : TypeId} {key : κ → Value} {val : ν → Value}
omit [DecidableEq κ] in
theorem Tab.same {w w' : World} {b : Nat} {M : List (κ × ν)} (h : Tab key val w b M) (hb : w'.heap[b]? = w.heap[b]?) : Tab key val w' b M := by
  obtain ⟨es, clock, h1, h2⟩ := h
  exact ⟨es, clock, hb.trans h1, h2⟩
theorem setMap_inj {w : World} {b : Nat} {o o' : Obj} (hlt : b < w.heap.size) (h : setMap w b o = setMap w b o') : o = o' := by
  have h1 : (setMap w b o).heap[b]? = (setMap w b o').heap[b]? := by rw [h]
  rw [setMap_same hlt, setMap_same hlt] at h1
  exact Option.some.inj h1
theorem Tab.entry {w : World} {b : Nat} {M : List (κ × ν)} (h : Tab key val w b M) (K : KeyOK P kt key) {mt et : TypeId} (hm : P.underlying mt = some (.map kt et)) {z : Value}
    (hz : ∀ w, (zeroValue et).run P w = .ok z w) (zv : ν) (hzv : z = val zv) (k : κ) :
    ∃ (v0 : Value) (st : Nat) (o1 : Obj), (Instr.mapEntry mt (.map (some b)) (key k)).run P w = .ok (.tuple #[v0, goInt st]) (setMap w b o1) ∧
      (∃ M1, Tab key val (setMap w b o1) b M1 ∧ ∀ k', (get M1 k').getD zv = (get M k').getD zv) ∧
      ∀ (w2 : World) (v : ν), w2.heap[b]? = some o1 → ∃ o2, (Instr.entryStore mt (.map (some b)) (goInt st) (val v)).run P w2 = .ok () (setMap w2 b o2) ∧ Tab key val (setMap w2 b o2) b (put M k v) := by
  have hstore := fun v => h.store K hm k v
  obtain ⟨es, clock, hb, hr, hn, hbn, hbl⟩ := h
  have hlt : b < w.heap.size := (Array.getElem?_eq_some_iff.1 hb).1
  have hf := run_findKey K w k hr
  cases hi : M.findIdx? (fun p => decide (p.1 = k)) with
  | none =>
    rw [hi] at hf
    refine ⟨z, clock, .map (es.push { key := key k, val := z, born := clock }) (clock + 1), ?_, ?_, fun w2 v hw2 => ?_⟩
    rotate_left
    · obtain ⟨o, hrun, hT⟩ := hstore zv
      have hrun2 : (Instr.mapUpdate mt (.map (some b)) (key k) (val zv)).run P w = .ok () (setMap w b (.map (es.push { key := key k, val := val zv, born := clock }) (clock + 1))) := by
        rw [Instr.mapUpdate, Sem.run_bind, run_underlying hm, Result.andThen_ok]
        simp only [Sem.run_bind, run_getObj hb, Result.andThen_ok, K.chk, hf, Option.bind_none, run_setObj hb]
      have ho := setMap_inj hlt (Result.ok.inj (hrun.symm.trans hrun2)).2
      subst ho
      rw [← hzv] at hT
      refine ⟨_, hT, fun k' => ?_⟩
      rw [get_put]
      split
      · rename_i e
        subst e
        rw [get_findIdx, hi]; rfl
      · rfl
    rotate_left
    · rw [Instr.mapEntry, Sem.run_bind, run_underlying hm, Result.andThen_ok]
      simp only [Sem.run_bind, run_getObj hb, Result.andThen_ok, K.chk, hf, Option.bind_none, run_setObj hb, hz, Sem.run_pure]
    · have hlt2 : b < w2.heap.size := (Array.getElem?_eq_some_iff.1 hw2).1
      obtain ⟨o, hrun, hT⟩ := hstore v
      have hrun2 : (Instr.mapUpdate mt (.map (some b)) (key k) (val v)).run P w = .ok () (setMap w b (.map (es.push { key := key k, val := val v, born := clock }) (clock + 1))) := by
        rw [Instr.mapUpdate, Sem.run_bind, run_underlying hm, Result.andThen_ok]
        simp only [Sem.run_bind, run_getObj hb, Result.andThen_ok, K.chk, hf, Option.bind_none, run_setObj hb]
      have ho := setMap_inj hlt (Result.ok.inj (hrun.symm.trans hrun2)).2
      subst ho
      refine ⟨_, ?_, hT.same (by rw [setMap_same hlt, setMap_same hlt2])⟩
      have hidx : (es.push { key := key k, val := z, born := clock }).findIdx? (fun e => ((e.born : Nat) : Int) == ((clock : Nat) : Int)) = some es.size := by
        rw [Go.WideElems.findIdx_arr]
        have := Go.WideElems.findIdx_born (l := (es.push { key := key k, val := z, born := clock }).toList) (j := es.size) (e0 := { key := key k, val := z, born := clock }) (by
          simp only [Array.toList_push, List.map_append, List.map_cons, List.map_nil]
          refine List.nodup_append.2 ⟨hbn, by simp, fun a ha c hc e1 => ?_⟩
          simp only [List.mem_singleton] at hc
          obtain ⟨x, hx, rfl⟩ := List.mem_map.1 ha
          have := hbl x hx
          omega) (by simp)
        exact this
      have hmod : (es.push { key := key k, val := z, born := clock }).modify es.size (fun e => { e with val := val v }) = es.push { key := key k, val := val v, born := clock } := by
        apply Array.ext'
        rw [Array.toList_modify, Array.toList_push, Array.toList_push, ← Array.length_toList, Go.WideElems.modify_last]
      simp [Instr.entryStore, run_getObj hw2, asInt, asIntOf, goInt, hidx, hmod, run_setObj hw2, Result.andThen_ok, Sem.run_bind]
  | some j =>
    rw [hi] at hf
    have hj : j < M.length := (List.findIdx?_eq_some_iff_getElem.1 hi).1
    have hjk : M[j].1 = k := by have := (List.findIdx?_eq_some_iff_getElem.1 hi).2.1; simpa using this
    obtain ⟨e, he, hek, hev⟩ := reads_at hr hj
    have he' : es[j]? = some e := by simpa using he
    rw [hjk] at hek
    have hsame : es.modify j (fun e => { e with key := key k }) = es := by
      apply Array.ext'
      rw [Array.toList_modify]
      apply List.ext_getElem?
      intro n
      rw [List.getElem?_modify]
      by_cases hnj : j = n
      · subst hnj
        rw [he]
        simp [← hek]
      · simp [hnj]
    refine ⟨e.val, e.born, .map es clock, ?_, ⟨M, ⟨es, clock, setMap_same hlt, hr, hn, hbn, hbl⟩, fun _ => rfl⟩, fun w2 v hw2 => ?_⟩
    · rw [Instr.mapEntry, Sem.run_bind, run_underlying hm, Result.andThen_ok]
      simp only [Sem.run_bind, run_getObj hb, Result.andThen_ok, K.chk, hf, Option.bind_some, he, Option.map_some, he', Option.getD_some, hek, Instr.keyThatStays, K.bits, if_true, Sem.run_pure, run_setObj hb, hsame]
    · have hlt2 : b < w2.heap.size := (Array.getElem?_eq_some_iff.1 hw2).1
      obtain ⟨o, hrun, hT⟩ := hstore v
      have hrun2 : (Instr.mapUpdate mt (.map (some b)) (key k) (val v)).run P w = .ok () (setMap w b (.map (es.modify j fun e => { e with key := key k, val := val v }) clock)) := by
        rw [Instr.mapUpdate, Sem.run_bind, run_underlying hm, Result.andThen_ok]
        simp only [Sem.run_bind, run_getObj hb, Result.andThen_ok, K.chk, hf, Option.bind_some, he, Option.map_some, he', Option.getD_some, hek, Instr.keyThatStays, K.bits, if_true, Sem.run_pure, run_setObj hb]
      have ho := setMap_inj hlt (Result.ok.inj (hrun.symm.trans hrun2)).2
      subst ho
      have hmm : (es.modify j fun e => { e with key := key k, val := val v }) = es.modify j fun e => { e with val := val v } := by
        apply Array.ext'
        rw [Array.toList_modify, Array.toList_modify]
        apply List.ext_getElem?
        intro n
        rw [List.getElem?_modify, List.getElem?_modify]
        by_cases hnj : j = n
        · subst hnj
          rw [he]
          simp [← hek]
        · simp [hnj]
      have hidx : es.findIdx? (fun e' => ((e'.born : Nat) : Int) == ((e.born : Nat) : Int)) = some j := by
        rw [Go.WideElems.findIdx_arr]
        exact Go.WideElems.findIdx_born hbn he
      refine ⟨_, ?_, hT.same (by rw [setMap_same hlt, setMap_same hlt2])⟩
      rw [hmm]
      simp [Instr.entryStore, run_getObj hw2, asInt, asIntOf, goInt, hidx, run_setObj hw2, Result.andThen_ok, Sem.run_bind]
end
end Tb
end Go.Proofs.Ytdhdpbnlhnodjaa

/-  The program's desk. -/
namespace Go.Proofs.Ytdhdpbnlhnodjaa
open Go.RowKit

abbrev PK := Int × Int
abbrev PM := List (PK × Int)
def pairV (p : PK) : Value := .agg #[.int .i64 p.1, .int .i64 p.2]
def numV (n : Int) : Value := .int .i64 n
set_option maxHeartbeats 1000000 in
theorem pair_keys : Tb.KeyOK Try.prog 93 pairV where
  eq := fun w a b => by
    show (Op.equalIn (9999 + 1) 93 (.agg #[.int .i64 a.1, .int .i64 a.2]) (.agg #[.int .i64 b.1, .int .i64 b.2])).run Try.prog w = _
    rw [run_equalIn_agg w 9999 _ _ _ (by kernel_rfl) (by kernel_rfl)]
    have hf : (Try.prog.fieldsOf 93).toList = [{ name := "one", type := 3, offset := 0, embedded := false, tag := "", pkgPath := "burin/name", byteOffset := 0 }, { name := "two", type := 3, offset := 1, embedded := false, tag := "", pkgPath := "burin/name", byteOffset := 8 }] := by kernel_rfl
    rw [hf]
    obtain ⟨a1, a2⟩ := a
    obtain ⟨b1, b2⟩ := b
    have e3 := Try.underlying3
    simp [go_sem, part, run_equalIn_int]
    by_cases h1 : a1 = b1 <;> by_cases h2 : a2 = b2 <;> simp [h1, h2]
  chk := fun w e a => by
    have e3 : ∀ x : Int, (Instr.checkKey e 9999 3 (.int .i64 x)).run Try.prog w = .ok () w := fun x => by
      rw [show (9999 : Nat) = 9998 + 1 from rfl, Instr.checkKey, Sem.run_bind, run_underlying Try.underlying3, Result.andThen_ok]
      rfl
    show (Instr.checkKey e (9999 + 1) 93 (.agg #[.int .i64 a.1, .int .i64 a.2])).run Try.prog w = _
    rw [Instr.checkKey, Sem.run_bind, run_underlying Try.underlying93, Result.andThen_ok]
    simp only []
    rw [← Array.forIn_toList]
    simp [go_sem, part, e3]
  desc := ⟨_, Try.underlying93, fun a b => rfl⟩
  bits := fun a => by simp [pairV, Instr.sameBits]

/-! ### what the table says -/
def gt (M : PM) (k : PK) : Int := (Tb.get M k).getD 0
def bump (M : PM) (k : PK) : PM := Tb.put M k (gt M k + 1)
theorem gt_bump (M : PM) (k k' : PK) : gt (bump M k) k' = gt M k' + if k' = k then 1 else 0 := by
  rw [gt, bump, Tb.get_put]
  split
  · rename_i h; rw [h]; rfl
  · rw [Int.add_zero]; rfl
def both (M : PM) (m : Int × Int) : PM := bump (bump M (m.1, m.2)) (m.2, m.1)
def meetsT (ms : List (Int × Int)) : PM := ms.foldl both []
theorem meetsT_snoc (ms : List (Int × Int)) (k : Nat) (hk : k < ms.length) : meetsT (ms.take (k + 1)) = both (meetsT (ms.take k)) (pr ms k) := by
  rw [meetsT, List.take_succ_eq_append_getElem hk, List.foldl_append, pr_eq hk]; rfl
theorem gt_meets (ms : List (Int × Int)) (a b : Int) : 0 ≤ gt (meetsT ms) (a, b) ∧ (0 < gt (meetsT ms) (a, b) ↔ ∃ m ∈ ms, (m.1 = a ∧ m.2 = b) ∨ (m.1 = b ∧ m.2 = a)) := by
  have key : ∀ (l : List (Int × Int)) (M : PM), gt M (a, b) ≤ gt (l.foldl both M) (a, b) ∧ (0 ≤ gt M (a, b) → (0 < gt (l.foldl both M) (a, b) ↔ 0 < gt M (a, b) ∨ ∃ m ∈ l, (m.1 = a ∧ m.2 = b) ∨ (m.1 = b ∧ m.2 = a))) := by
    intro l
    induction l with
    | nil => intro M; simp
    | cons m l ih =>
      intro M
      obtain ⟨h1, h2⟩ := ih (both M m)
      have hb : gt (both M m) (a, b) = gt M (a, b) + (if (a, b) = (m.1, m.2) then 1 else 0) + if (a, b) = (m.2, m.1) then 1 else 0 := by rw [both, gt_bump, gt_bump]
      rw [List.foldl_cons]
      by_cases c1 : (a, b) = (m.1, m.2) <;> by_cases c2 : (a, b) = (m.2, m.1)
      all_goals
        first | rw [if_pos c1, if_pos c2] at hb | rw [if_pos c1, if_neg c2] at hb | rw [if_neg c1, if_pos c2] at hb | rw [if_neg c1, if_neg c2] at hb
        simp only [Prod.mk.injEq] at c1 c2
        refine ⟨by omega, fun h0 => ?_⟩
        rw [h2 (by omega)]
        simp only [List.mem_cons, exists_eq_or_imp]
      · constructor
        · intro _; exact .inr (.inl (.inl ⟨c1.1.symm, c1.2.symm⟩))
        · intro _; left; omega
      · constructor
        · intro _; exact .inr (.inl (.inl ⟨c1.1.symm, c1.2.symm⟩))
        · intro _; left; omega
      · constructor
        · intro _; exact .inr (.inl (.inr ⟨c2.2.symm, c2.1.symm⟩))
        · intro _; left; omega
      · have e1 : ¬ (m.1 = a ∧ m.2 = b) := fun h => c1 ⟨h.1.symm, h.2.symm⟩
        have e2 : ¬ (m.1 = b ∧ m.2 = a) := fun h => c2 ⟨h.2.symm, h.1.symm⟩
        rw [show gt (both M m) (a, b) = gt M (a, b) by omega]
        constructor
        · rintro (h | h)
          · exact .inl h
          · exact .inr (.inr h)
        · rintro (h | h | h)
          · exact .inl h
          · rcases h with h | h
            · exact absurd h e1
            · exact absurd h e2
          · exact .inr h
  obtain ⟨h1, h2⟩ := key ms []
  have h0 : gt [] (a, b) = 0 := rfl
  refine ⟨by rw [h0] at h1; exact h1, ?_⟩
  rw [meetsT, h2 (by rw [h0]; exact Int.le_refl _), h0]
  simp
theorem gt_bound (ms : List (Int × Int)) (k : PK) : 0 ≤ gt (meetsT ms) k ∧ gt (meetsT ms) k ≤ 2 * ms.length := by
  have key : ∀ (l : List (Int × Int)) (M : PM), 0 ≤ gt M k → 0 ≤ gt (l.foldl both M) k ∧ gt (l.foldl both M) k ≤ gt M k + 2 * l.length := by
    intro l
    induction l with
    | nil => intro M h; simp [h]
    | cons m l ih =>
      intro M h
      have hb : gt (both M m) k = gt M k + (if k = (m.1, m.2) then 1 else 0) + if k = (m.2, m.1) then 1 else 0 := by rw [both, gt_bump, gt_bump]
      have h1 : 0 ≤ (if k = (m.1, m.2) then (1 : Int) else 0) ∧ (if k = (m.1, m.2) then (1 : Int) else 0) ≤ 1 := by split <;> omega
      have h2 : 0 ≤ (if k = (m.2, m.1) then (1 : Int) else 0) ∧ (if k = (m.2, m.1) then (1 : Int) else 0) ≤ 1 := by split <;> omega
      have := ih (both M m) (by omega)
      rw [List.foldl_cons, List.length_cons]
      omega
  have h0 : gt [] k = 0 := rfl
  have := key ms [] (by rw [h0]; exact Int.le_refl _)
  rw [h0] at this
  rw [meetsT]
  omega
theorem gt_bump_le (M : PM) (k k' : PK) {B : Int} (h : 0 ≤ gt M k' ∧ gt M k' ≤ B) : 0 ≤ gt (bump M k) k' ∧ gt (bump M k) k' ≤ B + 1 := by
  rw [gt_bump]
  split <;> omega
/-- which places are covered, and how often -/
def coverA (cs : List Int) : List Int := cs.foldl (fun l c => l.set c.toNat (nth l c.toNat + 1)) (List.replicate 20 0)
theorem coverA_snoc (cs : List Int) (k : Nat) (hk : k < cs.length) : coverA (cs.take (k + 1)) = (coverA (cs.take k)).set (nth cs k).toNat (nth (coverA (cs.take k)) (nth cs k).toNat + 1) := by
  rw [coverA, List.take_succ_eq_append_getElem hk, List.foldl_append, nth_eq hk]; rfl
theorem coverA_key : ∀ (cs l : List Int), (cs.foldl (fun l c => l.set c.toNat (nth l c.toNat + 1)) l).length = l.length
  | [], l => rfl
  | c :: cs, l => by rw [List.foldl_cons, coverA_key cs]; simp
theorem coverA_len (cs : List Int) : (coverA cs).length = 20 := by rw [coverA, coverA_key]; rfl
theorem nth_set (l : List Int) (i : Nat) (x : Int) (j : Nat) (hi : i < l.length) : nth (l.set i x) j = if j = i then x else nth l j := Sat.at0_set l i x j hi
theorem coverA_gt (cn : List Nat) (hc : ∀ c ∈ cn, c < 20) (p : Nat) : 0 ≤ nth (coverA (cn.map fun (c : Nat) => (c : Int))) p ∧ (0 < nth (coverA (cn.map fun (c : Nat) => (c : Int))) p ↔ p ∈ cn) ∧ nth (coverA (cn.map fun (c : Nat) => (c : Int))) p ≤ cn.length := by
  have key : ∀ (cn : List Nat) (l : List Int), l.length = 20 → (∀ c ∈ cn, c < 20) → 0 ≤ nth l p →
      nth l p ≤ nth ((cn.map fun (c : Nat) => (c : Int)).foldl (fun l c => l.set c.toNat (nth l c.toNat + 1)) l) p ∧
      (0 < nth ((cn.map fun (c : Nat) => (c : Int)).foldl (fun l c => l.set c.toNat (nth l c.toNat + 1)) l) p ↔ 0 < nth l p ∨ p ∈ cn) ∧
      nth ((cn.map fun (c : Nat) => (c : Int)).foldl (fun l c => l.set c.toNat (nth l c.toNat + 1)) l) p ≤ nth l p + cn.length := by
    intro cn
    induction cn with
    | nil => intro l _ _ _; simp
    | cons c cn ih =>
      intro l hl hc h0
      have hcl := hc c (by simp)
      rw [List.map_cons, List.foldl_cons, Int.toNat_natCast]
      have hs := nth_set l c (nth l c + 1) p (by omega)
      have h00 : 0 ≤ nth (l.set c (nth l c + 1)) p := by rw [hs]; split <;> (try omega); rename_i h; subst h; omega
      obtain ⟨h1, h2, h3⟩ := ih (l.set c (nth l c + 1)) (by simp [hl]) (fun x hx => hc x (by simp [hx])) h00
      by_cases e : p = c
      · subst e
        rw [if_pos rfl] at hs
        rw [List.length_cons]
        refine ⟨by omega, ?_, by omega⟩
        rw [h2]; simp; omega
      · rw [if_neg e] at hs
        rw [List.length_cons]
        refine ⟨by omega, ?_, by omega⟩
        rw [h2, hs]; simp [e]
  have h0 : nth (List.replicate 20 0) p = 0 := by
    rw [nth, List.getD_eq_getElem?_getD, List.getElem?_replicate]; split <;> rfl
  obtain ⟨h1, h2, h3⟩ := key cn (List.replicate 20 0) (by simp) hc (by rw [h0]; exact Int.le_refl _)
  rw [h0] at h1 h2 h3
  exact ⟨h1, by rw [coverA, h2]; simp, by rw [coverA]; omega⟩
end Go.Proofs.Ytdhdpbnlhnodjaa

/-  The program: mate, CheckSheet. -/
namespace Go.Proofs.Ytdhdpbnlhnodjaa
open Go.RowKit

theorem i64_xor1 (p : Nat) (hp : p < 50) : bits .xor .i64 (p : Int) 1 = (Sat.mate p : Nat) := by
  have key : ∀ p : Fin 50, bits .xor .i64 ((p.val : Nat) : Int) 1 = (Sat.mate p.val : Nat) := by decide +kernel
  exact key ⟨p, hp⟩
set_option maxHeartbeats 1000000 in
theorem mate_calls (p : Nat) (hp : p < 50) (W : World) : Calls Try.prog 64 #[.int .i64 (p : Int)] W fun e w' => e = .returned (.int .i64 (Sat.mate p : Nat)) ∧ w' = W := by
  have hx := i64_xor1 p hp
  go_enter Try.func64, Try.ntmps64
  go_wp2
  go_ret
  exact ⟨rfl, rfl⟩
def idxP (p : Int × Int → Bool) : List (Int × Int) → Nat → Int
  | [], _ => -1
  | x :: xs, k => if p x then (k : Int) else idxP p xs (k + 1)
theorem idxP_at (p : Int × Int → Bool) (xs : List (Int × Int)) (k : Nat) (h : k < xs.length) :
    idxP p (xs.drop k) k = if p (pr xs k) then (k : Int) else idxP p (xs.drop (k + 1)) (k + 1) := by
  rw [List.drop_eq_getElem_cons h, idxP, pr_eq h]
theorem idxP_end (p : Int × Int → Bool) (xs : List (Int × Int)) (k : Nat) (h : xs.length ≤ k) : idxP p (xs.drop k) k = -1 := by
  rw [List.drop_eq_nil_of_le h, idxP]
theorem idxP_lo (p : Int × Int → Bool) : ∀ (xs : List (Int × Int)) (k : Nat), (0 ≤ idxP p xs k ↔ xs.any p = true)
  | [], _ => by simp [idxP]
  | x :: xs, k => by
    simp only [idxP, List.any_cons, Bool.or_eq_true]
    by_cases h : p x = true
    · simp [h]
    · simp only [h, Bool.false_eq_true, if_false, false_or]
      exact idxP_lo p xs (k + 1)
theorem idxP_any (p : Int × Int → Bool) (xs : List (Int × Int)) : decide (0 ≤ idxP p xs 0) = xs.any p := by
  rw [Bool.eq_iff_iff, decide_eq_true_iff]; exact idxP_lo p xs 0
set_option maxHeartbeats 1000000 in
theorem IndexFunc_stray (v : Value) (cap : Value) (ps : List (Int × Int)) (p : Int × Int → Bool) (w : World) (hx : Prs w v ps) (H : Hid (∀ (x : Later w) (a b : Int), (a, b) ∈ ps → Calls Try.prog 55 #[.agg #[.int .i64 a, .int .i64 b], cap] x.w (Gives (.bool (p (a, b))) x.w))) :
    Calls Try.prog 77 #[v, .func (.func 55) #[] #[cap]] w (Gives (.int .i64 (idxP p ps 0)) w) := by
  have hl := hx.1
  obtain ⟨av, lv, cv, rfl⟩ : ∃ a n c, v = .slice a n c := by obtain ⟨a, c, e⟩ := hx.form; exact ⟨a, _, c, e⟩
  have HL := Lib.hid (show lv = ps.length by obtain ⟨a, c, e⟩ := hx.form; cases e; rfl)
  have hl2 : lv ≤ 9007199254740992 := by rw [HL.out]; exact hl
  go_enter Try.func77, Try.ntmps77
  go_wp2
  go_loopw [8] (fun i wr => ∃ k : Nat, ∃ x : Later w, wr = x.w ∧ k ≤ lv ∧ i = .int .i64 k ∧ Hid (idxP p ps 0 = idxP p (ps.drop k) k)) (fun i _ => lv - (intOf i).toNat)
  case atStart => exact ⟨0, Later.self _, rfl, Nat.zero_le _, rfl, rfl⟩
  case round =>
    obtain ⟨k, x, rfl, hk, rfl, hp⟩ := hrel
    by_cases hlt : k < lv
    · obtain ⟨bm, om, km, e, hkm, hbm, hgm⟩ := hx.at (k := k) (by rw [← HL.out]; exact hlt)
      injection e with e1 e2 e3
      subst e1
      have gm := hgm k (by rw [← HL.out]; exact hlt)
      have m1 := (x.cell hbm).trans gm.1
      have m2 := (x.cell hbm).trans gm.2
      have ml := Nat.lt_of_lt_of_le hbm x.size
      have hs := Lib.hid (idxP_at p ps k (by rw [← HL.out]; exact hlt))
      obtain ⟨a, ha⟩ : ∃ a, (pr ps k).1 = a := ⟨_, rfl⟩
      obtain ⟨b, hb⟩ : ∃ b, (pr ps k).2 = b := ⟨_, rfl⟩
      rw [ha] at m1
      rw [hb] at m2
      have HAB := Lib.hid (show pr ps k = (a, b) by rw [← ha, ← hb])
      have hcall := H.out x a b (by rw [← HAB.out, pr_eq (by rw [← HL.out]; exact hlt)]; exact List.getElem_mem _)
      obtain ⟨r, hr⟩ : ∃ r, p (a, b) = r := ⟨_, rfl⟩
      rw [hr] at hcall
      have HR := Lib.hid hr
      clear gm hgm hkm e2 e3 ha hb hr
      cases r
      · go_wp2_with (go_at_call 55; refine (Later.quiet x hcall).mono ?_; rintro e w' ⟨rfl, x, rfl⟩)
        go_roundw
        case rel => exact ⟨k + 1, _, rfl, by omega, by go_num, by unfold Hid; rw [hp.out, hs.out, HAB.out, if_neg (by rw [HR.out]; simp)]⟩
        case measure => simp [intOf]; omega
      · go_wp2_with (go_at_call 55; refine (Later.quiet x hcall).mono ?_; rintro e w' ⟨rfl, x, rfl⟩)
        go_ret
        exact ⟨ret_int (by rw [hp.out, hs.out, HAB.out, if_pos HR.out]), _, rfl⟩
    · have hs := Lib.hid (idxP_end p ps k (by rw [← HL.out]; omega))
      go_wp2
      go_ret
      exact ⟨ret_int (by rw [hp.out, hs.out]), x, rfl⟩
set_option maxHeartbeats 400000 in
theorem ContainsFunc_stray (v : Value) (cap : Value) (ps : List (Int × Int)) (p : Int × Int → Bool) (w : World) (hx : Prs w v ps) (H : Hid (∀ (x : Later w) (a b : Int), (a, b) ∈ ps → Calls Try.prog 55 #[.agg #[.int .i64 a, .int .i64 b], cap] x.w (Gives (.bool (p (a, b))) x.w))) :
    Calls Try.prog 57 #[v, .func (.func 55) #[] #[cap]] w (Gives (.bool (ps.any p)) w) := by
  have h := Lib.hid (idxP_any p ps)
  go_enter Try.func57, Try.ntmps57
  go_wp2_with (go_at_call 77; refine (IndexFunc_stray _ cap ps p _ hx H).mono ?_; rintro e w' ⟨rfl, x, rfl⟩)
  go_ret
  exact ⟨ret_bool h.out, x, rfl⟩

set_option maxHeartbeats 1000000 in
theorem IndexFunc_own (v : Value) (ps : List (Int × Int)) (p : Int × Int → Bool) (w : World) (hx : Prs w v ps) (H : Hid (∀ (x : Later w) (a b : Int), (a, b) ∈ ps → Calls Try.prog 56 #[.agg #[.int .i64 a, .int .i64 b]] x.w (Gives (.bool (p (a, b))) x.w))) :
    Calls Try.prog 77 #[v, .func (.func 56) #[] #[]] w (Gives (.int .i64 (idxP p ps 0)) w) := by
  have hl := hx.1
  obtain ⟨av, lv, cv, rfl⟩ : ∃ a n c, v = .slice a n c := by obtain ⟨a, c, e⟩ := hx.form; exact ⟨a, _, c, e⟩
  have HL := Lib.hid (show lv = ps.length by obtain ⟨a, c, e⟩ := hx.form; cases e; rfl)
  have hl2 : lv ≤ 9007199254740992 := by rw [HL.out]; exact hl
  go_enter Try.func77, Try.ntmps77
  go_wp2
  go_loopw [8] (fun i wr => ∃ k : Nat, ∃ x : Later w, wr = x.w ∧ k ≤ lv ∧ i = .int .i64 k ∧ Hid (idxP p ps 0 = idxP p (ps.drop k) k)) (fun i _ => lv - (intOf i).toNat)
  case atStart => exact ⟨0, Later.self _, rfl, Nat.zero_le _, rfl, rfl⟩
  case round =>
    obtain ⟨k, x, rfl, hk, rfl, hp⟩ := hrel
    by_cases hlt : k < lv
    · obtain ⟨bm, om, km, e, hkm, hbm, hgm⟩ := hx.at (k := k) (by rw [← HL.out]; exact hlt)
      injection e with e1 e2 e3
      subst e1
      have gm := hgm k (by rw [← HL.out]; exact hlt)
      have m1 := (x.cell hbm).trans gm.1
      have m2 := (x.cell hbm).trans gm.2
      have ml := Nat.lt_of_lt_of_le hbm x.size
      have hs := Lib.hid (idxP_at p ps k (by rw [← HL.out]; exact hlt))
      obtain ⟨a, ha⟩ : ∃ a, (pr ps k).1 = a := ⟨_, rfl⟩
      obtain ⟨b, hb⟩ : ∃ b, (pr ps k).2 = b := ⟨_, rfl⟩
      rw [ha] at m1
      rw [hb] at m2
      have HAB := Lib.hid (show pr ps k = (a, b) by rw [← ha, ← hb])
      have hcall := H.out x a b (by rw [← HAB.out, pr_eq (by rw [← HL.out]; exact hlt)]; exact List.getElem_mem _)
      obtain ⟨r, hr⟩ : ∃ r, p (a, b) = r := ⟨_, rfl⟩
      rw [hr] at hcall
      have HR := Lib.hid hr
      clear gm hgm hkm e2 e3 ha hb hr
      cases r
      · go_wp2_with (go_at_call 56; refine (Later.quiet x hcall).mono ?_; rintro e w' ⟨rfl, x, rfl⟩)
        go_roundw
        case rel => exact ⟨k + 1, _, rfl, by omega, by go_num, by unfold Hid; rw [hp.out, hs.out, HAB.out, if_neg (by rw [HR.out]; simp)]⟩
        case measure => simp [intOf]; omega
      · go_wp2_with (go_at_call 56; refine (Later.quiet x hcall).mono ?_; rintro e w' ⟨rfl, x, rfl⟩)
        go_ret
        exact ⟨ret_int (by rw [hp.out, hs.out, HAB.out, if_pos HR.out]), _, rfl⟩
    · have hs := Lib.hid (idxP_end p ps k (by rw [← HL.out]; omega))
      go_wp2
      go_ret
      exact ⟨ret_int (by rw [hp.out, hs.out]), x, rfl⟩
set_option maxHeartbeats 400000 in
theorem ContainsFunc_own (v : Value) (ps : List (Int × Int)) (p : Int × Int → Bool) (w : World) (hx : Prs w v ps) (H : Hid (∀ (x : Later w) (a b : Int), (a, b) ∈ ps → Calls Try.prog 56 #[.agg #[.int .i64 a, .int .i64 b]] x.w (Gives (.bool (p (a, b))) x.w))) :
    Calls Try.prog 57 #[v, .func (.func 56) #[] #[]] w (Gives (.bool (ps.any p)) w) := by
  have h := Lib.hid (idxP_any p ps)
  go_enter Try.func57, Try.ntmps57
  go_wp2_with (go_at_call 77; refine (IndexFunc_own _ ps p _ hx H).mono ?_; rintro e w' ⟨rfl, x, rfl⟩)
  go_ret
  exact ⟨ret_bool h.out, x, rfl⟩

set_option maxHeartbeats 1000000 in
theorem stray_calls (n a b : Int) (h : 1 ≤ n ∧ n ≤ 10) (B : Nat) (W : World) (h0 : W.cell? ⟨B, 0, none⟩ = some (.int .i64 n)) (hB : B < W.heap.size) :
    Calls Try.prog 55 #[.agg #[.int .i64 a, .int .i64 b], .pointer (some ⟨B, 0, none⟩)] W (Gives (.bool (strayB n (a, b))) W) := by
  have HV := Lib.hid (show (!(!([a, b].any (outB 0 (2 * n - 1))))) = strayB n (a, b) by
    rw [Bool.not_not, strayB, isPl, isPl]
    simp only [List.any_cons, List.any_nil, Bool.or_false, outB]
    rw [Bool.eq_iff_iff]
    simp
    omega)
  have HI := Lib.hid (fun (V : World) (hV : Ints V (.slice (some ⟨W.heap.size, 0, none⟩) 2 2) [a, b]) => within_calls _ [a, b] 0 (2 * n - 1) V hV)
  have hI := Ints.lit W [a, b] 55 (b := W.heap.size) (arr := #[.int .i64 a, .int .i64 b]) (n := 2) rfl rfl rfl (by simp)
  obtain ⟨r, hr⟩ : ∃ r, (!([a, b].any (outB 0 (2 * n - 1)))) = r := ⟨_, rfl⟩
  rw [hr] at HV HI
  clear hr
  go_enter Try.func55, Try.ntmps55
  go_wp2_with fail
  obtain ⟨z, hz⟩ : ∃ q : Later W, W.alloc (.cells #[.int .i64 a, .int .i64 b] 55) = q.w := ⟨Later.new _ _, rfl⟩
  have h1 := (z.cell hB).trans h0
  have h2 := Nat.lt_of_lt_of_le hB z.size
  have hlt : W.heap.size < z.w.heap.size := by rw [← hz]; simp
  rw [hz] at hI ⊢
  obtain ⟨G, hG⟩ : ∃ G, W.heap.size = G := ⟨_, rfl⟩
  rw [hG] at hlt hI HI ⊢
  clear hz hG
  refine region_later_lit (by kernel_rfl) (by kernel_rfl) ?_
  repeat (first | go_big_quiet_step (first
       | (go_at_call 53; (with_reducible exact Later.quiet _ (HI.out _ (hI.later _))))))
  refine wpQuiet_nil ?_
  intro y
  go_wp2
  go_ret
  exact ⟨ret_bool HV.out, z.step y, rfl⟩

set_option maxHeartbeats 1000000 in
theorem own_calls (a b : Int) (ha : 0 ≤ a ∧ a < 20) (hb : 0 ≤ b ∧ b < 20) (W : World) :
    Calls Try.prog 56 #[.agg #[.int .i64 a, .int .i64 b]] W (Gives (.bool (ownB (a, b))) W) := by
  have HV := Lib.hid (show (a / 2 == b / 2) = ownB (a, b) from rfl)
  obtain ⟨a', rfl⟩ := Int.eq_ofNat_of_zero_le ha.1
  obtain ⟨b', rfl⟩ := Int.eq_ofNat_of_zero_le hb.1
  obtain ⟨p, hp⟩ : ∃ p, (a' : Int) / 2 = p := ⟨_, rfl⟩
  obtain ⟨q, hq⟩ : ∃ p, (b' : Int) / 2 = p := ⟨_, rfl⟩
  rw [hp, hq] at HV
  go_enter Try.func56, Try.ntmps56
  go_wp2
  go_ret
  exact ⟨ret_bool HV.out, Later.new _ _, rfl⟩

end Go.Proofs.Ytdhdpbnlhnodjaa

/-  The program: CheckSheet. -/
namespace Go.Proofs.Ytdhdpbnlhnodjaa
open Go.RowKit
theorem one_any (lo hi n : Int) : ([n].any (outB lo hi)) = outB lo hi n := by simp
theorem any_outB (n : Int) (cs : List Int) : cs.any (outB 0 (2 * n - 1)) = cs.any fun c => !isPl n c := by
  congr 1
  funext c
  rw [outB, isPl, Bool.eq_iff_iff]
  simp
  omega
theorem stray_no {n : Int} {ms : List (Int × Int)} (h : ms.any (strayB n) = false) (hn : 1 ≤ n ∧ n ≤ 10) {a b : Int} (hm : (a, b) ∈ ms) : (0 ≤ a ∧ a < 20) ∧ 0 ≤ b ∧ b < 20 := by
  have h1 := List.any_eq_false.1 h _ hm
  simp only [strayB, isPl, Bool.or_eq_true, Bool.not_eq_true', Bool.and_eq_false_iff, not_or, decide_eq_false_iff_not] at h1
  omega
set_option maxRecDepth 100000 in
set_option maxHeartbeats 4000000 in
theorem CheckSheet_calls (n : Int) (mv cv : Value) (ms : List (Int × Int)) (cs : List Int) (W : World) (hs : Sht W mv cv ms cs) :
    Calls Try.prog 20 #[.agg #[.int .i64 n, mv, cv]] W (Gives (.int .i64 (vsheet n ms cs)) W) := by
  have hml := hs.m.1
  have hcl := hs.c.1
  obtain ⟨am, lm, cm, rfl⟩ : ∃ a n c, mv = .slice a n c := by obtain ⟨a, c, e⟩ := hs.m.form; exact ⟨a, _, c, e⟩
  obtain ⟨ac, lc, cc, rfl⟩ : ∃ a n c, cv = .slice a n c := by obtain ⟨a, c, e⟩ := hs.c.form; exact ⟨a, _, c, e⟩
  have HLM := Lib.hid (show lm = ms.length by obtain ⟨a, c, e⟩ := hs.m.form; cases e; rfl)
  have HLC := Lib.hid (show lc = cs.length by obtain ⟨a, c, e⟩ := hs.c.form; cases e; rfl)
  obtain ⟨E, hE⟩ : ∃ E, vsheet n ms cs = E := ⟨_, rfl⟩
  have HE := Lib.hid hE
  rw [hE]
  clear hE
  go_enter Try.func20, Try.ntmps20
  go_wp2_with fail
  obtain ⟨B, hB⟩ : ∃ B, B = W.heap.size := ⟨_, rfl⟩
  obtain ⟨z, hz⟩ : ∃ z : Later W, z.w = W.alloc (.cells #[.int .i64 n, .slice am lm cm, .slice ac lc cc] 25) := ⟨Later.new _ _, rfl⟩
  have c0 : z.w.cell? ⟨B, 0, none⟩ = some (.int .i64 n) := by rw [hz, hB]; simp [go_sem]
  have c1 : z.w.cell? ⟨B, 1, none⟩ = some (.slice am lm cm) := by rw [hz, hB]; simp [go_sem]
  have c2 : z.w.cell? ⟨B, 2, none⟩ = some (.slice ac lc cc) := by rw [hz, hB]; simp [go_sem]
  have hBz : B < z.w.heap.size := by rw [hz, hB]; simp [go_sem]
  rw [← hz, ← hB]
  replace hs := hs.later z
  
  have HZ : Hid (z.w.heap.size = B + 1) := Lib.hid (by rw [hz, hB]; simp)
  clear hz hB
  obtain ⟨x1, hx1⟩ : ∃ q : Later z.w, z.w.alloc (.cells #[.int .i64 n] 3) = q.w := ⟨Later.new _ _, rfl⟩
  have hI := Ints.lit z.w [n] 3 (b := B + 1) (arr := #[.int .i64 n]) (n := 1) HZ.out.symm rfl rfl (by simp)
  rw [hx1] at hI ⊢
  clear hx1
  refine (within_calls _ [n] 1 10 _ hI).mono ?_
  clear hI
  rintro e w' ⟨rfl, x2, rfl⟩
  obtain ⟨x, hx⟩ : ∃ q : Later z.w, x2.w = q.w := ⟨x1.step x2, rfl⟩
  rw [one_any, hx]
  clear hx x2 x1
  have g0 : x.w.cell? ⟨B, 0, none⟩ = some (.int .i64 n) := ((x).cell hBz).trans c0
  have g1 : x.w.cell? ⟨B, 1, none⟩ = some (.slice am lm cm) := ((x).cell hBz).trans c1
  have g2 : x.w.cell? ⟨B, 2, none⟩ = some (.slice ac lc cc) := ((x).cell hBz).trans c2
  have gB : B < x.w.heap.size := Nat.lt_of_lt_of_le hBz (x).size
  cases hb : outB 1 10 n
  rotate_left
  · have HV := Lib.hid (show E = 6 by
      rw [← HE.out, vsheet_eq, if_pos]
      rw [outB, Bool.or_eq_true, decide_eq_true_iff, decide_eq_true_iff] at hb
      omega)
    go_wp2
    go_ret
    exact ⟨ret_int HV.out.symm, z.step x, rfl⟩
  have hn : 1 ≤ n ∧ n ≤ 10 := by
    rw [outB, Bool.or_eq_false_iff] at hb
    obtain ⟨h1, h2⟩ := hb
    have h1 := of_decide_eq_false h1
    have h2 := of_decide_eq_false h2
    omega
  clear hb
  by_cases hl : 40 < lm
  · have d1 : decide ((40 : Int) < lm) = true := decide_eq_true (by omega)
    have HV := Lib.hid (show E = 6 by rw [← HE.out, vsheet_eq, if_pos (by rw [← HLM.out]; omega)])
    go_wp2
    go_ret
    exact ⟨ret_int HV.out.symm, z.step x, rfl⟩
  have d1 : decide ((40 : Int) < lm) = false := decide_eq_false (by omega)
  by_cases hl2 : 20 < lc
  · have d2 : decide ((20 : Int) < lc) = true := decide_eq_true (by omega)
    have HV := Lib.hid (show E = 6 by rw [← HE.out, vsheet_eq, if_pos (by rw [← HLC.out]; omega)])
    go_wp2
    go_ret
    exact ⟨ret_int HV.out.symm, z.step x, rfl⟩
  have d2 : decide ((20 : Int) < lc) = false := decide_eq_false (by omega)
  have HE1 := Lib.hid (show (if ms.any (strayB n) = true ∨ (cs.any fun c => !isPl n c) = true then 3 else if ms.any ownB = true then 16 else 0) = E by
    rw [← HE.out, vsheet_eq n ms cs, if_neg (show ¬ (n < 1 ∨ 10 < n ∨ 40 < ms.length ∨ 20 < cs.length) by rw [← HLC.out, ← HLM.out]; omega)])
  clear HE
  have HST := Lib.hid (fun (V : Later x.w) (a b : Int) (_ : (a, b) ∈ ms) => stray_calls n a b hn B V.w ((V.cell gB).trans g0) (Nat.lt_of_lt_of_le gB V.size))
  go_wp2_with fail
  refine (ContainsFunc_stray _ _ ms (strayB n) _ (hs.m.later x) HST).mono ?_
  rintro e w' ⟨rfl, y, rfl⟩
  obtain ⟨x3, hx3⟩ : ∃ q : Later z.w, y.w = q.w := ⟨x.step y, rfl⟩
  rw [hx3]
  clear hx3 HST g0 g1 g2 gB y
  have g0 : x3.w.cell? ⟨B, 0, none⟩ = some (.int .i64 n) := ((x3).cell hBz).trans c0
  have g1 : x3.w.cell? ⟨B, 1, none⟩ = some (.slice am lm cm) := ((x3).cell hBz).trans c1
  have g2 : x3.w.cell? ⟨B, 2, none⟩ = some (.slice ac lc cc) := ((x3).cell hBz).trans c2
  have gB : B < x3.w.heap.size := Nat.lt_of_lt_of_le hBz (x3).size
  cases hst : ms.any (strayB n)
  rotate_left
  · have HV := Lib.hid (show E = 3 by rw [← HE1.out, if_pos (.inl hst)])
    go_wp2
    go_ret
    exact ⟨ret_int HV.out.symm, z.step x3, rfl⟩
  have HSTF := Lib.hid hst
  have hwc := within_calls _ cs 0 (2 * n - 1) x3.w (hs.c.later x3)
  rw [any_outB n cs] at hwc
  clear hst
  cases hcv : cs.any fun c => !isPl n c
  rotate_left
  · have HV := Lib.hid (show E = 3 by rw [← HE1.out, if_pos (.inr hcv)])
    rw [hcv] at hwc
    clear hcv
    go_wp2_with (go_at_call 53; (with_reducible refine hwc.mono ?_); rintro e w' ⟨rfl, y, rfl⟩)
    go_ret
    exact ⟨ret_int HV.out.symm, (z.step x3).step y, rfl⟩
  have HE2 := Lib.hid (show (if ms.any ownB = true then 16 else 0) = E by rw [← HE1.out, HSTF.out, hcv]; simp)
  rw [hcv] at hwc
  clear hcv
  go_wp2_with (first | (go_at_call 53; (with_reducible refine hwc.mono ?_); rintro e w' ⟨rfl, y, rfl⟩))
  have HOW := Lib.hid (fun (V : Later y.w) (a b : Int) (hm : (a, b) ∈ ms) => own_calls a b (by have := stray_no HSTF.out hn hm; omega) (by have := stray_no HSTF.out hn hm; omega) V.w)
  refine (ContainsFunc_own _ ms ownB _ ((hs.m.later x3).later y) HOW).mono ?_
  rintro e w' ⟨rfl, y2, rfl⟩
  cases how : ms.any ownB
  · have HV := Lib.hid (show E = 0 by rw [← HE2.out, how]; rfl)
    go_wp2
    go_ret
    exact ⟨ret_int HV.out.symm, ((z.step x3).step y).step y2, rfl⟩
  · have HV := Lib.hid (show E = 16 by rw [← HE2.out, how]; rfl)
    go_wp2
    go_ret
    exact ⟨ret_int HV.out.symm, ((z.step x3).step y).step y2, rfl⟩

end Go.Proofs.Ytdhdpbnlhnodjaa
