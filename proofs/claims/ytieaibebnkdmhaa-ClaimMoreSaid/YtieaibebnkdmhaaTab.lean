import Derived.Test.YtieaibebnkdmhaaBase
/-  The orders of a region with many operations: off a table, so that the kernel has little to reckon. -/
namespace Go.Proofs.Ytieaibebnkdmhaa

/-- what counts of an operation for the orders: on which it waits, what it writes, where it looks -/
structure Tab where
  after : List Nat
  dst : Option Nat
  looks : List Nat
def tabOp (ops : Array Oper) (o : Oper) : Tab := ⟨(o.after.toList.filter (Region.binds .any)).map (·.on), o.dst, o.looksAt ops⟩
def Tab.apart (x y : Tab) : Bool := (match x.dst with | some d => !y.looks.contains d && y.dst != some d | none => true) && (match y.dst with | some d => !x.looks.contains d | none => true)
def tabChk : List Tab → Nat → Bool
  | [], _ => true
  | t :: r, k => t.after.all (fun j => Nat.blt j k) && r.all (fun u => u.after.contains k || t.apart u) && tabChk r (k + 1)
theorem tab_apart (ops : Array Oper) (x y : Oper) : (tabOp ops x).apart (tabOp ops y) = x.apart ops y := rfl
theorem tab_any (ops : Array Oper) (o : Oper) (k : Nat) : (tabOp ops o).after.contains k = o.after.any (fun e => Region.binds .any e && e.on == k) := by
  rw [Bool.eq_iff_iff, List.contains_iff_mem, Array.any_eq_true']
  simp only [tabOp, List.mem_map, List.mem_filter, Array.mem_toList_iff, Bool.and_eq_true, beq_iff_eq, and_assoc]
theorem lexFrom_tab (ops : Array Oper) : ∀ (r pre : List Oper) (listed : Array Bool), ops.toList = pre ++ r → (∀ j d, j < ops.size → listed.getD j d = decide (j < pre.length)) → listed.size = ops.size →
    tabChk (r.map (tabOp ops)) pre.length = true → Region.lexFrom .any ops r.length pre.length listed = true
  | [], pre, listed, he, hl, _, _ => by
    have hsz : ops.size = pre.length := by rw [← Array.length_toList, he]; simp
    show (Region.ready .any ops listed).isEmpty = true
    rw [List.isEmpty_iff]
    refine List.eq_nil_iff_forall_not_mem.2 fun j hj => ?_
    obtain ⟨h1, o, h2, _⟩ := mem_ready.1 hj
    have hlt := (Array.getElem?_eq_some_iff.1 h2).1
    rw [hl j true hlt, decide_eq_false_iff_not] at h1
    omega
  | o :: r, pre, listed, he, hl, hsz, hc => by
    have hn : ops.size = pre.length + (r.length + 1) := by rw [← Array.length_toList, he]; simp
    have ho : ops[pre.length]? = some o := by rw [← Array.getElem?_toList, he]; simp
    simp only [List.map_cons, tabChk, Bool.and_eq_true] at hc
    obtain ⟨⟨h1, h2⟩, h3⟩ := hc
    show ((Region.ready .any ops listed).contains pre.length && Region.free .any ops listed pre.length && Region.lexFrom .any ops r.length (pre.length + 1) (listed.setIfInBounds pre.length true)) = true
    rw [Bool.and_eq_true, Bool.and_eq_true]
    refine ⟨⟨?_, ?_⟩, ?_⟩
    · rw [List.contains_iff_mem]
      refine mem_ready.2 ⟨by rw [hl _ true (by omega)]; simp, o, ho, fun e he' hb => ?_⟩
      have := List.all_eq_true.1 h1 e.on (List.mem_map.2 ⟨e, List.mem_filter.2 ⟨Array.mem_toList_iff.2 he', hb⟩, rfl⟩)
      have hlt : e.on < pre.length := by simpa using this
      rw [hl _ false (by omega), decide_eq_true hlt]
    · unfold Region.free
      rw [ho]
      refine List.all_eq_true.2 fun j hj => ?_
      rw [List.mem_range] at hj
      rw [Bool.or_eq_true, Bool.or_eq_true, beq_iff_eq, hl j true hj, decide_eq_true_iff]
      by_cases hjk : j ≤ pre.length
      · exact .inl (by omega)
      · right
        obtain ⟨i, hi⟩ : ∃ i, j = pre.length + (i + 1) := ⟨j - pre.length - 1, by omega⟩
        have hir : i < r.length := by omega
        have hoj : ops[j]? = some r[i] := by
          rw [← Array.getElem?_toList, he, hi, List.getElem?_append_right (by omega)]
          simp [hir]
        rw [hoj]
        have := List.all_eq_true.1 h2 (tabOp ops r[i]) (List.mem_map.2 ⟨r[i], List.getElem_mem hir, rfl⟩)
        rw [tab_any, tab_apart] at this
        exact this
    · have := lexFrom_tab ops r (pre ++ [o]) (listed.setIfInBounds pre.length true) (by rw [he]; simp) (fun j d hj => ?_) (by rw [Array.size_setIfInBounds]; exact hsz) (by rw [List.length_append]; exact h3)
      · rw [List.length_append] at this
        exact this
      · have h := hl j d hj
        rw [List.length_append, List.length_singleton]
        simp only [Array.getD_eq_getD_getElem?] at h ⊢
        rw [Array.getElem?_setIfInBounds]
        by_cases e : pre.length = j
        · subst e
          rw [if_pos rfl, if_pos (by omega)]
          simp
        · rw [if_neg e, h, Bool.eq_iff_iff, decide_eq_true_iff, decide_eq_true_iff]
          omega
theorem lexB_tab {l : List Oper} (T : List Tab) (hs : Region.noSelect l.toArray = true) (hT : l.map (tabOp l.toArray) = T) (hc : tabChk T 0 = true) : Region.lexB .any l.toArray = true := by
  rw [Region.lexB, hs, Bool.true_and]
  subst hT
  have := lexFrom_tab l.toArray l [] (Array.replicate l.toArray.size false) rfl (fun j d hj => by
    have hj' : j < l.length := by simpa using hj
    simp [Array.getD_eq_getD_getElem?, hj']) (by simp) hc
  simpa using this

/-- A slice of bytes that reads as a list of numbers. -/
def Byts (w : World) (v : Value) (xs : List Int) : Prop :=
  xs.length ≤ 9007199254740992 ∧ (∀ k, k < xs.length → 0 ≤ nth xs k ∧ nth xs k ≤ 255) ∧ ((xs = [] ∧ ∃ a cap, v = .slice a 0 cap) ∨
    ∃ b off cap, v = .slice (some ⟨b, off, none⟩) xs.length cap ∧ xs.length ≤ cap ∧ b < w.heap.size ∧ ∀ k, k < xs.length → w.cell? ⟨b, off + k, none⟩ = some (.int .u8 (nth xs k)))
theorem Byts.later {w : World} {v : Value} {xs : List Int} (h : Byts w v xs) (x : Later w) : Byts x.w v xs := by
  obtain ⟨h1, h3, h2 | ⟨b, off, cap, hv, hl, hb, hc⟩⟩ := h
  · exact ⟨h1, h3, .inl h2⟩
  · exact ⟨h1, h3, .inr ⟨b, off, cap, hv, hl, Nat.lt_of_lt_of_le hb x.size, fun k hk => (x.cell hb).trans (hc k hk)⟩⟩
theorem Byts.form {w : World} {v : Value} {xs : List Int} (h : Byts w v xs) : ∃ a cap, v = .slice a xs.length cap := by
  obtain ⟨h1, _, ⟨rfl, a, cap, rfl⟩ | ⟨b, off, cap, rfl, _⟩⟩ := h
  · exact ⟨a, cap, rfl⟩
  · exact ⟨_, cap, rfl⟩
theorem Byts.at {w : World} {v : Value} {xs : List Int} (h : Byts w v xs) {k : Nat} (hk : k < xs.length) :
    ∃ b off cap, v = .slice (some ⟨b, off, none⟩) xs.length cap ∧ xs.length ≤ cap ∧ b < w.heap.size ∧ ∀ k, k < xs.length → w.cell? ⟨b, off + k, none⟩ = some (.int .u8 (nth xs k)) := by
  obtain ⟨h1, _, ⟨rfl, _⟩ | h2⟩ := h
  · simp at hk
  · exact h2
/-- the stars of a list, in an order by numbers, without some: what is left, and what has been taken -/
def replF : List Int → List Int → List Int → List Int
  | [], _, acc => acc
  | x :: bs, left, acc => if left = [] then acc else
      if (x % ((left.length : Int) + 1)).toNat = left.length then replF bs (left.drop 1) acc
      else replF bs (left.take (x % ((left.length : Int) + 1)).toNat ++ left.drop ((x % ((left.length : Int) + 1)).toNat + 1)) (acc ++ [nth left (x % ((left.length : Int) + 1)).toNat])
theorem replF_drop (by_ left acc : List Int) (k : Nat) (h : k < by_.length) (hl : left ≠ []) : replF (by_.drop k) left acc =
    if (nth by_ k % ((left.length : Int) + 1)).toNat = left.length then replF (by_.drop (k + 1)) (left.drop 1) acc
    else replF (by_.drop (k + 1)) (left.take (nth by_ k % ((left.length : Int) + 1)).toNat ++ left.drop ((nth by_ k % ((left.length : Int) + 1)).toNat + 1)) (acc ++ [nth left (nth by_ k % ((left.length : Int) + 1)).toNat]) := by
  rw [List.drop_eq_getElem_cons h, replF, if_neg hl, nth_eq h]
theorem replF_end (by_ left acc : List Int) (k : Nat) (h : by_.length ≤ k ∨ left = []) : replF (by_.drop k) left acc = acc := by
  rcases h with h | h
  · rw [List.drop_eq_nil_of_le h, replF]
  · subst h
    cases by_.drop k with
    | nil => rfl
    | cons x bs => rw [replF, if_pos rfl]
theorem replF_len : ∀ (bs left acc : List Int), (replF bs left acc).length ≤ acc.length + bs.length
  | [], left, acc => by simp [replF]
  | x :: bs, left, acc => by
    rw [replF]
    split
    · simp
    split
    · have := replF_len bs (left.drop 1) acc; simp only [List.length_cons]; omega
    · have := replF_len bs (left.take (x % ((left.length : Int) + 1)).toNat ++ left.drop ((x % ((left.length : Int) + 1)).toNat + 1)) (acc ++ [nth left (x % ((left.length : Int) + 1)).toNat])
      simp only [List.length_append, List.length_cons, List.length_nil] at this ⊢
      omega

end Go.Proofs.Ytieaibebnkdmhaa
