import Derived.Test.YtieaibebnkdmhaaCheckB
import Derived.Test.YtieaibebnkdmhaaMaps

namespace Go.Proofs.Ytieaibebnkdmhaa
open Go.RowKit

def pairV (p : Int × Int) : Value := .agg #[.int .i64 p.1, .int .i64 p.2]
abbrev PK := Int × Int

set_option maxHeartbeats 1000000 in
theorem pair_keys : Tb.KeyOK Try.prog 74 pairV where
  eq := fun w a b => by
    show (Op.equalIn (9999 + 1) 74 (.agg #[.int .i64 a.1, .int .i64 a.2]) (.agg #[.int .i64 b.1, .int .i64 b.2])).run Try.prog w = _
    rw [run_equalIn_agg w 9999 _ _ _ (by kernel_rfl) (by kernel_rfl)]
    have hf : (Try.prog.fieldsOf 74).toList = [{ name := "nation", type := 3, offset := 0, embedded := false, tag := "", pkgPath := "burin/claim", byteOffset := 0 }, { name := "star", type := 3, offset := 1, embedded := false, tag := "", pkgPath := "burin/claim", byteOffset := 8 }] := by kernel_rfl
    rw [hf]
    obtain ⟨a1, a2⟩ := a
    obtain ⟨b1, b2⟩ := b
    have e3 := Try.underlying3
    simp [go_sem, part, run_equalIn_int]
    by_cases h1 : a1 = b1 <;> by_cases h2 : a2 = b2 <;> simp [h1, h2]
  chk := fun w e a => by
    have e3 : ∀ x : Int, (Instr.checkKey e 9999 3 (.int .i64 x)).run Try.prog w = .ok () w := fun x => by
      rw [show (9999 : Nat) = 9998 + 1 from rfl, Instr.checkKey, Sem.run_bind, run_underlying Try.underlying3, Result.andThen_ok]
      rfl
    show (Instr.checkKey e (9999 + 1) 74 (.agg #[.int .i64 a.1, .int .i64 a.2])).run Try.prog w = _
    rw [Instr.checkKey, Sem.run_bind, run_underlying Try.underlying74, Result.andThen_ok]
    simp only []
    rw [← Array.forIn_toList]
    simp [go_sem, part, e3]
  desc := ⟨_, Try.underlying74, fun a b => rfl⟩
  bits := fun a => by simp [pairV, Instr.sameBits]

/-- The table behind the court, as its loops fill it. -/
abbrev PM := List ((Int × Int) × (Int × Int))
def in1 (n : Int) : List Int → Nat → PM → PM
  | [], _, M => M
  | s :: l, i, M => in1 n l (i + 1) (Tb.put M (n, s) ((i : Int), -1))
def out1 : List (List Int) → Nat → PM → PM
  | [], _, M => M
  | l :: r, n, M => out1 r (n + 1) (in1 n l 0 M)
def in2 (s : Int) : List Int → Nat → PM → PM
  | [], _, M => M
  | n :: l, i, M => in2 s l (i + 1) (match Tb.get M (n, s) with | some p => Tb.put M (n, s) (p.1, (i : Int)) | none => M)
def out2 : List (List Int) → Nat → PM → PM
  | [], _, M => M
  | l :: r, s, M => out2 r (s + 1) (in2 s l 0 M)
def tabOf (ns ss : List (List Int)) : PM := (out2 ss 0 (out1 ns 0 [])).filter (fun p => decide (0 ≤ p.2.2))

/-- The court of a book. -/
def Court (w : World) (c : Value) (ns ss : List (List Int)) (M : PM) : Prop :=
  ∃ (b m : Nat) (nv sv : Value), c = .pointer (some ⟨b, 0, none⟩) ∧ w.heap[b]? = some (.cells #[nv, sv, .map (some m)] 98) ∧ Rows2 w nv ns ∧ Rows2 w sv ss ∧ Tb.Tab pairV pairV w m M

/-- The court that was made beyond lo, of the book with the lists nv and sv. -/
def CourtN (lo : Nat) (w : World) (c nv sv : Value) (M : PM) : Prop :=
  ∃ (b m : Nat), c = .pointer (some ⟨b, 0, none⟩) ∧ lo ≤ b ∧ lo ≤ m ∧ w.heap[b]? = some (.cells #[nv, sv, .map (some m)] 98) ∧ Tb.Tab pairV pairV w m M
theorem CourtN.court {lo : Nat} {w : World} {c nv sv : Value} {M : PM} (h : CourtN lo w c nv sv M) {ns ss : List (List Int)} (hn : Rows2 w nv ns) (hs : Rows2 w sv ss) : Court w c ns ss M := by
  obtain ⟨b, m, h1, _, _, h2, h3⟩ := h
  exact ⟨b, m, nv, sv, h1, h2, hn, hs, h3⟩
theorem CourtN.mono {lo lo' : Nat} {w : World} {c nv sv : Value} {M : PM} (h : CourtN lo w c nv sv M) (hl : lo' ≤ lo) : CourtN lo' w c nv sv M := by
  obtain ⟨b, m, h1, h2, h3, h4⟩ := h
  exact ⟨b, m, h1, by omega, by omega, h4⟩
theorem CourtN.kept {lo : Nat} {w w' : World} {c nv sv : Value} {M : PM} (h : CourtN lo w c nv sv M) (hk : ∀ k, lo ≤ k → k < w.heap.size → w'.heap[k]? = w.heap[k]?) : CourtN lo w' c nv sv M := by
  obtain ⟨b, m, h1, h2, h3, h4, es, clock, h5, h6⟩ := h
  exact ⟨b, m, h1, h2, h3, (hk b h2 (Array.getElem?_eq_some_iff.1 h4).1).trans h4, es, clock, (hk m h3 (Array.getElem?_eq_some_iff.1 h5).1).trans h5, h6⟩
theorem CourtN.later {lo : Nat} {w : World} {c nv sv : Value} {M : PM} (h : CourtN lo w c nv sv M) (x : Later w) : CourtN lo x.w c nv sv M := h.kept fun k _ hk => x.le.block k hk

theorem Court.later {w : World} {c : Value} {ns ss : List (List Int)} {M : PM} (h : Court w c ns ss M) (x : Later w) : Court x.w c ns ss M := by
  obtain ⟨b, m, nv, sv, h1, h2, h3, h4, h5⟩ := h
  exact ⟨b, m, nv, sv, h1, (x.le.block b (Array.getElem?_eq_some_iff.1 h2).1).trans h2, h3.later x, h4.later x, h5.later x⟩

theorem in1_at (n : Int) (l : List Int) (k : Nat) (M : PM) (h : k < l.length) : in1 n (l.drop k) k M = in1 n (l.drop (k + 1)) (k + 1) (Tb.put M (n, nth l k) ((k : Int), -1)) := by
  rw [List.drop_eq_getElem_cons h, in1, nth_eq h]
theorem in1_end (n : Int) (l : List Int) (k : Nat) (M : PM) (h : l.length ≤ k) : in1 n (l.drop k) k M = M := by
  rw [List.drop_eq_nil_of_le h, in1]
theorem in2_at (n : Int) (l : List Int) (k : Nat) (M : PM) (h : k < l.length) : in2 n (l.drop k) k M = in2 n (l.drop (k + 1)) (k + 1) (match Tb.get M (nth l k, n) with | some p => Tb.put M (nth l k, n) (p.1, (k : Int)) | none => M) := by
  rw [List.drop_eq_getElem_cons h, in2, nth_eq h]
theorem in2_end (n : Int) (l : List Int) (k : Nat) (M : PM) (h : l.length ≤ k) : in2 n (l.drop k) k M = M := by
  rw [List.drop_eq_nil_of_le h, in2]
theorem out1_at (l : List (List Int)) (k : Nat) (M : PM) (h : k < l.length) : out1 (l.drop k) k M = out1 (l.drop (k + 1)) (k + 1) (in1 k (row l k) 0 M) := by
  rw [List.drop_eq_getElem_cons h, out1, row_eq h]
theorem out1_end (l : List (List Int)) (k : Nat) (M : PM) (h : l.length ≤ k) : out1 (l.drop k) k M = M := by
  rw [List.drop_eq_nil_of_le h, out1]
theorem out2_at (l : List (List Int)) (k : Nat) (M : PM) (h : k < l.length) : out2 (l.drop k) k M = out2 (l.drop (k + 1)) (k + 1) (in2 k (row l k) 0 M) := by
  rw [List.drop_eq_getElem_cons h, out2, row_eq h]
theorem out2_end (l : List (List Int)) (k : Nat) (M : PM) (h : l.length ≤ k) : out2 (l.drop k) k M = M := by
  rw [List.drop_eq_nil_of_le h, out2]

end Go.Proofs.Ytieaibebnkdmhaa
