import Derived.Test.YtpkgfkeekcgkcaaKM
import Derived.Deep.LoopGhost
import Derived.Scope
import Derived.WalkMore
import Derived.ArgAppend
import Derived.Test.YtpkgfkeekcgkcaaKG
/-  What stands while a longest common part is sought: theory, and the state. -/
namespace Go.Proofs.Ytpkgfkeekcgkcaa
open Go.RowKit
open Lcs (lc ch len CP)
def natP (q : Nat × Nat) : Int × Int := ((q.1 : Int), (q.2 : Int))
/-- pairs that are found, from the last one back -/
structure Pk (a b : List UInt8) (n : Nat) (e : Nat × Nat) (os : List (Nat × Nat)) : Prop where
  ln : os.length + n = len a b
  at_ : lc a b e.1 e.2 = n
  cp : CP a b os.reverse
  bef : ∀ q ∈ os, e.1 ≤ q.1 ∧ e.2 ≤ q.2
  bx : e.1 ≤ a.length ∧ e.2 ≤ b.length
theorem Pk.start (a b : List UInt8) : Pk a b (len a b) (a.length, b.length) [] :=
  ⟨by simp, rfl, CP.nil a b, fun q h => absurd h (by simp), Nat.le_refl _, Nat.le_refl _⟩
theorem Pk.step {a b : List UInt8} {n : Nat} {e : Nat × Nat} {os : List (Nat × Nat)} (h : Pk a b (n + 1) e os) {i j : Nat} (hi : i < e.1) (hj : j < e.2) (hc : ch a i = ch b j) (hl : lc a b i j = n) : Pk a b n (i, j) (os ++ [(i, j)]) where
  ln := by rw [List.length_append, List.length_singleton, ← h.ln]; omega
  at_ := hl
  cp := by
    rw [List.reverse_append]
    refine ⟨fun q hq => ?_, ?_⟩
    · simp only [List.reverse_cons, List.reverse_nil, List.nil_append, List.cons_append, List.mem_cons] at hq
      rcases hq with rfl | hq
      · have := h.bx; exact ⟨show i < _ by omega, show j < _ by omega, hc⟩
      · exact h.cp.eq q hq
    · simp only [List.reverse_cons, List.reverse_nil, List.nil_append, List.cons_append, List.pairwise_cons]
      refine ⟨fun q hq => ?_, h.cp.inc⟩
      have := h.bef q (List.mem_reverse.1 hq)
      exact ⟨show i < _ by omega, show j < _ by omega⟩
  bef := fun q hq => by
    rcases List.mem_append.1 hq with hq | hq
    · have := h.bef q hq; exact ⟨by dsimp only; omega, by dsimp only; omega⟩
    · have : q = (i, j) := by simpa using hq
      subst this; exact ⟨Nat.le_refl _, Nat.le_refl _⟩
  bx := by have := h.bx; exact ⟨show i ≤ _ by omega, show j ≤ _ by omega⟩
/-- what the map still holds -/
structure Lf (a b : List UInt8) (e : Nat × Nat) (ML : PM) : Prop where
  lab : ∀ k v, Tb.get ML k = some v → ∃ x y : Nat, k = ((x : Int), (y : Int)) ∧ x < a.length ∧ y < b.length ∧ ch a x = ch b y ∧ v = ((lc a b x y + 1 : Nat) : Int)
  has : ∀ x y : Nat, x < e.1 → y < e.2 → x < a.length → y < b.length → ch a x = ch b y → Tb.get ML ((x : Int), (y : Int)) = some ((lc a b x y + 1 : Nat) : Int)
theorem Lf.start {a b : List UInt8} {ML : PM} (h : ∀ k, Tb.get ML k = labO a b a.length 0 k) : Lf a b (a.length, b.length) ML where
  lab := fun k v hk => by
    rw [h k, labO] at hk
    split at hk
    · rename_i hc
      obtain ⟨x, hx⟩ := Int.eq_ofNat_of_zero_le hc.1
      obtain ⟨y, hy⟩ := Int.eq_ofNat_of_zero_le hc.2.1
      refine ⟨x, y, Prod.ext hx hy, by omega, by omega, ?_, ?_⟩
      · have := hc.2.2.2.2; rw [hx, hy, Int.toNat_natCast, Int.toNat_natCast] at this; exact this
      · rw [hx, hy, Int.toNat_natCast, Int.toNat_natCast] at hk; exact (Option.some.inj hk).symm
    · cases hk
  has := fun x y _ _ hx hy hc => by
    rw [h, labO, if_pos (by
      refine ⟨by dsimp only; omega, by dsimp only; omega, .inl (by dsimp only; omega), by dsimp only; omega, ?_⟩
      dsimp only
      rw [Int.toNat_natCast, Int.toNat_natCast]; exact hc)]
    dsimp only
    rw [Int.toNat_natCast, Int.toNat_natCast]
theorem Lf.del {a b : List UInt8} {e : Nat × Nat} {ML : PM} (h : Lf a b e ML) {k : Int × Int} (hk : befP k (natP e) = false) : Lf a b e (Tb.del ML k) where
  lab := fun k' v hv => by
    rw [Tb.get_del] at hv
    split at hv
    · cases hv
    · exact h.lab k' v hv
  has := fun x y h1 h2 h3 h4 h5 => by
    rw [Tb.get_del, if_neg]
    · exact h.has x y h1 h2 h3 h4 h5
    · rintro rfl
      have hb : befP ((x : Int), (y : Int)) (natP e) = true := by
        show (decide ((x : Int) < (e.1 : Int)) && decide ((y : Int) < (e.2 : Int))) = true
        rw [decide_eq_true (by omega), decide_eq_true (by omega)]
        rfl
      rw [hb] at hk
      cases hk
theorem Lf.less {a b : List UInt8} {e e' : Nat × Nat} {ML : PM} (h : Lf a b e ML) (h1 : e'.1 ≤ e.1) (h2 : e'.2 ≤ e.2) : Lf a b e' ML :=
  ⟨h.lab, fun x y hx hy => h.has x y (by omega) (by omega)⟩
theorem get_mem {M : PM} (hn : (M.map (·.1)).Nodup) {p : PK × Int} (hp : p ∈ M) : Tb.get M p.1 = some p.2 := by
  induction M with
  | nil => exact absurd hp (by simp)
  | cons q M ih =>
    simp only [List.map_cons, List.nodup_cons] at hn
    rcases List.mem_cons.1 hp with rfl | hp
    · simp [Tb.get]
    · have hne : q.1 ≠ p.1 := fun e => hn.1 (by rw [e]; exact List.mem_map_of_mem hp)
      have := ih hn.2 hp
      simp only [Tb.get, List.find?_cons, hne, decide_false] at this ⊢
      exact this
theorem mem_get {M : PM} {k : PK} {v : Int} (h : Tb.get M k = some v) : (k, v) ∈ M := by
  rw [Tb.get, Option.map_eq_some_iff] at h
  obtain ⟨p, hp, rfl⟩ := h
  have h1 := List.find?_some hp
  have h2 := List.mem_of_find?_eq_some hp
  have e : p.1 = k := by simpa using h1
  rw [← e]; exact h2
def leftS (M : PM) (S : List PK) : Nat := (M.filter (fun q => decide (q.1 ∉ S))).length
theorem leftS_lt {M : PM} {S : List PK} {p : PK × Int} (hp : p ∈ M) (hs : p.1 ∉ S) : leftS M (p.1 :: S) < leftS M S := by
  unfold leftS
  have e : M.filter (fun q => decide (q.1 ∉ p.1 :: S)) = (M.filter (fun q => decide (q.1 ∉ S))).filter (fun q => decide (q.1 ≠ p.1)) := by
    rw [List.filter_filter]
    refine List.filter_congr fun q _ => ?_
    simp
  rw [e]
  have hm : p ∈ M.filter (fun q => decide (q.1 ∉ S)) := List.mem_filter.2 ⟨hp, by simpa using hs⟩
  exact List.length_filter_lt_length_iff_exists.2 ⟨p, hm, by simp⟩
/-- the state: W is the world at the call; c3: the variable of the map, ml the map, c6: what is found, c7: the last one found, c8: the label that is sought; Ds: the marks -/
structure Cm (W U : World) (c3 ml c6 : Nat) (v : Value) (c7 c8 : Nat) (ML : PM) (os : List (Nat × Nat)) (e : Nat × Nat) (n : Nat) (Ds : List Nat) : Prop where
  gat : Gat W U c6 v (os.map natP)
  b3 : Lin U c3 112 [.map (some ml)]
  tab : Tb.Tab keyV numV U ml ML
  b7 : Lin U c7 103 [.int .i64 e.1, .int .i64 e.2]
  b8 : Lin U c8 3 [.int .i64 n]
  ds : ∀ D ∈ Ds, W.heap.size ≤ D ∧ U.heap[D]? = some (.deferred (some []))
  nd : Ds.Nodup
  l3 : W.heap.size ≤ c3
  lm : W.heap.size ≤ ml
  l7 : W.heap.size ≤ c7
  l8 : W.heap.size ≤ c8
  ow : v.ownBlock ≠ some c7
section
variable {W U U' : World} {c3 ml c6 c7 c8 n : Nat} {v : Value} {ML : PM} {os : List (Nat × Nat)} {e : Nat × Nat} {Ds : List Nat}
theorem lin_ne {U : World} {x y : Nat} {T T' : TypeId} {cs cs' : List Value} (h : Lin U x T cs) (h' : Lin U y T' cs') (hT : T ≠ T') : x ≠ y := fun e => by
  rw [Lin, e, show U.heap[y]? = _ from h'] at h
  exact hT (Obj.cells.inj (Option.some.inj h)).2.1.symm
theorem lin_tab {U : World} {x m : Nat} {T : TypeId} {cs : List Value} {M : PM} (h : Lin U x T cs) (h' : Tb.Tab keyV numV U m M) : x ≠ m := fun e => by
  obtain ⟨es, c, h1, _⟩ := h'
  rw [Lin, e, h1] at h
  cases h
theorem own_tab {U : World} {lo m n' s : Nat} {T : TypeId} {v : Value} {xs : List Value} {M : PM} (h : U.ownsRow lo T s v n' xs) (h' : Tb.Tab keyV numV U m M) : v.ownBlock ≠ some m := fun e1 => by
  obtain ⟨es, c, h1, _⟩ := h'
  obtain ⟨_, hr | ⟨g, cap, cur, rfl, _, hg, _⟩⟩ := h
  · rw [hr.1] at e1; cases e1
  · simp only [Value.ownBlock, Option.some.injEq] at e1
    subst e1
    rw [h1] at hg
    cases hg
theorem own_def {U : World} {lo D n' s : Nat} {T : TypeId} {v : Value} {xs : List Value} (h : U.ownsRow lo T s v n' xs) (h' : U.heap[D]? = some (.deferred (some []))) : v.ownBlock ≠ some D := fun e1 => by
  obtain ⟨_, hr | ⟨g, cap, cur, rfl, _, hg, _⟩⟩ := h
  · rw [hr.1] at e1; cases e1
  · simp only [Value.ownBlock, Option.some.injEq] at e1
    subst e1
    rw [h'] at hg
    cases hg
theorem lin_def {U : World} {x D : Nat} {T : TypeId} {cs : List Value} (h : Lin U x T cs) (h' : U.heap[D]? = some (.deferred (some []))) : x ≠ D := fun e => by
  rw [Lin, e, h'] at h
  cases h
theorem Cm.bel (h : Cm W U c3 ml c6 v c7 c8 ML os e n Ds) : Below W.heap.size W U := h.gat.bel
theorem Cm.kept (h : Cm W U c3 ml c6 v c7 c8 ML os e n Ds) {r : Option Nat} (hg : U.grownBy U' r) (hr : ∀ k, r = some k → W.heap.size ≤ k ∧ k ∉ Ds ∧ c3 ≠ k ∧ ml ≠ k ∧ c6 ≠ k ∧ v.ownBlock ≠ some k ∧ c7 ≠ k ∧ c8 ≠ k) : Cm W U' c3 ml c6 v c7 c8 ML os e n Ds where
  gat := h.gat.kept hg (fun e => (hr _ e.symm).2.2.2.2.1 rfl) (by
    cases hv : v.ownBlock with
    | none => exact .inl rfl
    | some k => exact .inr fun e => (hr k e.symm).2.2.2.2.2.1 hv) (fun k e => (hr k e).1)
  b3 := h.b3.kept hg (fun e => (hr _ e.symm).2.2.1 rfl)
  tab := h.tab.same (hg.block ml h.tab.lt (fun e => (hr _ e.symm).2.2.2.1 rfl))
  b7 := h.b7.kept hg (fun e => (hr _ e.symm).2.2.2.2.2.2.1 rfl)
  b8 := h.b8.kept hg (fun e => (hr _ e.symm).2.2.2.2.2.2.2 rfl)
  ds := fun D hD => ⟨(h.ds D hD).1, (hg.block D (Array.getElem?_eq_some_iff.1 (h.ds D hD).2).1 (fun e => (hr _ e.symm).2.1 hD)).trans (h.ds D hD).2⟩
  nd := h.nd
  l3 := h.l3
  lm := h.lm
  l7 := h.l7
  l8 := h.l8
  ow := h.ow
theorem Cm.later (h : Cm W U c3 ml c6 v c7 c8 ML os e n Ds) (x : Later U) : Cm W x.w c3 ml c6 v c7 c8 ML os e n Ds := h.kept x.grown (fun _ e => nomatch e)
/-- walks, and blocks that are no cells, from a bound on -/
theorem Cm.walks (h : Cm W U c3 ml c6 v c7 c8 ML os e n Ds) {B : Nat} {r : Option Nat} (hg : U.grownBy U' r) (hr : ∀ k, r = some k → B ≤ k ∧ ∃ o : Obj, U.heap[k]? = some o ∧ o.isCells = false) (hB : W.heap.size ≤ B) (hm : ml < B) (hD : ∀ D ∈ Ds, D < B) : Cm W U' c3 ml c6 v c7 c8 ML os e n Ds := by
  have hne : ∀ {c T cs} k, r = some k → Lin U c T cs → c ≠ k := fun k e hl e2 => by
    obtain ⟨o, ho, hcl⟩ := (hr k e).2
    rw [← e2, show U.heap[_]? = _ from hl] at ho
    cases ho
    cases hcl
  refine h.kept hg fun k e => ⟨Nat.le_trans hB (hr k e).1, fun hm2 => by have := hD k hm2; have := (hr k e).1; omega, hne k e h.b3, fun e2 => by have := (hr k e).1; omega, hne k e h.gat.box, fun e2 => ?_, hne k e h.b7, hne k e h.b8⟩
  obtain ⟨_, hr2 | ⟨g, cap, cur, rfl, _, hg2, _⟩⟩ := h.gat.own
  · rw [hr2.1] at e2; cases e2
  · simp only [Value.ownBlock, Option.some.injEq] at e2
    obtain ⟨o, ho, hcl⟩ := (hr k e).2
    rw [← e2, hg2] at ho
    cases ho
    cases hcl
/-- another map -/
theorem Cm.map (h : Cm W U c3 ml c6 v c7 c8 ML os e n Ds) {V : World} {ML' : PM} (hg : U.grownBy V (some ml)) (hT : Tb.Tab keyV numV V ml ML') : Cm W V c3 ml c6 v c7 c8 ML' os e n Ds where
  gat := h.gat.kept hg (fun e => lin_tab h.gat.box h.tab (Option.some.inj e)) (.inr (own_tab h.gat.own h.tab)) (fun k e => by cases e; exact h.lm)
  b3 := h.b3.kept hg (fun e => lin_tab h.b3 h.tab (Option.some.inj e))
  tab := hT
  b7 := h.b7.kept hg (fun e => lin_tab h.b7 h.tab (Option.some.inj e))
  b8 := h.b8.kept hg (fun e => lin_tab h.b8 h.tab (Option.some.inj e))
  ds := fun D hD => ⟨(h.ds D hD).1, (hg.block D (Array.getElem?_eq_some_iff.1 (h.ds D hD).2).1 (fun e => by
    obtain ⟨es, c, h1, _⟩ := h.tab
    have h2 := (h.ds D hD).2
    rw [Option.some.inj e, h1] at h2
    cases h2)).trans (h.ds D hD).2⟩
  nd := h.nd
  l3 := h.l3
  lm := h.lm
  l7 := h.l7
  l8 := h.l8
  ow := h.ow
/-- another label -/
theorem Cm.setN (h : Cm W U c3 ml c6 v c7 c8 ML os e n Ds) (n' : Nat) : Cm W (U.setCell ⟨c8, 0, none⟩ (.int .i64 n')) c3 ml c6 v c7 c8 ML os e n' Ds where
  gat := h.gat.kept (grownBy_setCell_at U c8 0 _) (fun e => lin_ne h.gat.box h.b8 (by decide) (Option.some.inj e)) (.inr (own_ne_lin h.gat.own h.b8 (by decide))) (fun k e => by cases e; exact h.l8)
  b3 := h.b3.other (lin_ne h.b3 h.b8 (by decide)) _
  tab := h.tab.same (heap_setCell_other _ _ _ _ (fun e => lin_tab h.b8 h.tab e.symm))
  b7 := h.b7.other (lin_ne h.b7 h.b8 (by decide)) _
  b8 := h.b8.set 0 _
  ds := fun D hD => ⟨(h.ds D hD).1, (heap_setCell_other _ _ _ _ (fun e => lin_def h.b8 (h.ds D hD).2 e.symm)).trans (h.ds D hD).2⟩
  nd := h.nd
  l3 := h.l3
  lm := h.lm
  l7 := h.l7
  l8 := h.l8
  ow := h.ow
/-- the label in another variable -/
theorem Cm.newN (h : Cm W U c3 ml c6 v c7 c8 ML os e n Ds) {c8' n' : Nat} (hb : Lin U c8' 3 [.int .i64 n']) (hl : W.heap.size ≤ c8') : Cm W U c3 ml c6 v c7 c8' ML os e n' Ds :=
  ⟨h.gat, h.b3, h.tab, h.b7, hb, h.ds, h.nd, h.l3, h.lm, h.l7, hl, h.ow⟩
/-- the last one found -/
theorem Cm.setE (h : Cm W U c3 ml c6 v c7 c8 ML os e n Ds) (e' : Nat × Nat) : Cm W ((U.setCell ⟨c7, 0, none⟩ (.int .i64 e'.1)).setCell ⟨c7, 1, none⟩ (.int .i64 e'.2)) c3 ml c6 v c7 c8 ML os e' n Ds where
  gat := (h.gat.kept (grownBy_setCell_at U c7 0 (.int .i64 e'.1)) (fun e => lin_ne h.gat.box h.b7 (by decide) (Option.some.inj e)) (.inr h.ow) (fun k e => by cases e; exact h.l7)).kept (grownBy_setCell_at _ c7 1 (.int .i64 e'.2)) (fun e => lin_ne h.gat.box h.b7 (by decide) (Option.some.inj e)) (.inr h.ow) (fun k e => by cases e; exact h.l7)
  b3 := (h.b3.other (lin_ne h.b3 h.b7 (by decide)) _).other (lin_ne h.b3 h.b7 (by decide)) _
  tab := (h.tab.same (heap_setCell_other _ _ _ _ (fun e => lin_tab h.b7 h.tab e.symm))).same (heap_setCell_other _ _ _ _ (fun e => lin_tab h.b7 h.tab e.symm))
  b7 := (h.b7.set 0 _).set 1 _
  b8 := (h.b8.other (lin_ne h.b8 h.b7 (by decide)) _).other (lin_ne h.b8 h.b7 (by decide)) _
  ds := fun D hD => ⟨(h.ds D hD).1, ((heap_setCell_other _ _ _ _ (fun e => lin_def h.b7 (h.ds D hD).2 e.symm)).trans (heap_setCell_other _ _ _ _ (fun e => lin_def h.b7 (h.ds D hD).2 e.symm))).trans (h.ds D hD).2⟩
  nd := h.nd
  l3 := h.l3
  lm := h.lm
  l7 := h.l7
  l8 := h.l8
  ow := h.ow
/-- one mark more -/
theorem Cm.push (h : Cm W U c3 ml c6 v c7 c8 ML os e n Ds) {D : Nat} (hD : U.heap[D]? = some (.deferred (some []))) (hW : W.heap.size ≤ D) (hn : D ∉ Ds) : Cm W U c3 ml c6 v c7 c8 ML os e n (D :: Ds) :=
  { h with ds := fun E hE => by
             rcases List.mem_cons.1 hE with rfl | hE
             · exact ⟨hW, hD⟩
             · exact h.ds E hE
           nd := List.nodup_cons.2 ⟨hn, h.nd⟩ }
/-- one pair more -/
theorem Cm.app (h : Cm W U c3 ml c6 v c7 c8 ML os e n Ds) (b cc : Nat) (q : Nat × Nat) (h0 : U.cell? ⟨b, 0, none⟩ = some (.int .i64 q.1)) (h1 : U.cell? ⟨b, 1, none⟩ = some (.int .i64 q.2)) (hbig : os.length + 1 ≤ 1000000000000) (ty : TypeId) :
    ∃ a' n' m' w', (Builtin.append_ #[100, 100] ty #[v, .slice (some ⟨b, 0, none⟩) 1 cc]).run Try.prog U = .ok (.slice a' n' m') w' ∧ Lin w' c6 100 [v] ∧
      Cm W (w'.setCell ⟨c6, 0, none⟩ (.slice a' n' m')) c3 ml c6 (.slice a' n' m') c7 c8 ML (os ++ [q]) e n Ds ∧ Below W.heap.size U (w'.setCell ⟨c6, 0, none⟩ (.slice a' n' m')) ∧ KeepsOthers U (w'.setCell ⟨c6, 0, none⟩ (.slice a' n' m')) ∧
      (∀ {c T cs}, Lin U c T cs → v.ownBlock ≠ some c → c ≠ c6 → Lin (w'.setCell ⟨c6, 0, none⟩ (.slice a' n' m')) c T cs) := by
  obtain ⟨v', w', hr, hP, hg, h5⟩ := app_mt_at h.gat.own b cc (q.1 : Int) (q.2 : Int) h0 h1 h.gat.bel.size (by rw [List.length_map]; exact hbig) ty
  obtain ⟨a', n', m', rfl⟩ := hP.form'
  have hbl : Below W.heap.size U w' := h.gat.own.below hg h.gat.bel.size
  have hl2 := h.gat.box.kept hg (Ne.symm h.gat.ne)
  have hne : (Value.slice a' n' m').ownBlock ≠ some c6 := own_ne_lin hP hl2 (by decide)
  have hg2 := grownBy_setCell_at w' c6 0 (.slice a' n' m')
  have hD2 : ∀ D ∈ Ds, w'.heap[D]? = some (.deferred (some [])) := fun D hD => (hg.block D (Array.getElem?_eq_some_iff.1 (h.ds D hD).2).1 (fun e => own_def h.gat.own (h.ds D hD).2 e.symm)).trans (h.ds D hD).2
  refine ⟨a', n', m', w', hr, hl2, ⟨⟨(h.gat.bel.trans hbl).setCell (p := ⟨c6, 0, none⟩) h.gat.lo _, hl2.set 0 _, ?_, h.gat.lo⟩, ?_, ?_, ?_, ?_, fun D hD => ⟨(h.ds D hD).1, ?_⟩, h.nd, h.l3, h.lm, h.l7, h.l8, ?_⟩, hbl.setCell (p := ⟨c6, 0, none⟩) h.gat.lo _, ?_, fun {c T cs} hc hT hcc => ?_⟩
  · rw [List.map_append]; exact hP.kept hg2 (.inr hne)
  · exact (h.b3.kept hg (Ne.symm (own_ne_lin h.gat.own h.b3 (by decide)))).other (lin_ne h.b3 h.gat.box (by decide)) _
  · exact (h.tab.same (hg.block ml h.tab.lt (Ne.symm (own_tab h.gat.own h.tab)))).same (heap_setCell_other _ _ _ _ (fun e => lin_tab h.gat.box h.tab e.symm))
  · exact (h.b7.kept hg (Ne.symm h.ow)).other (lin_ne h.b7 h.gat.box (by decide)) _
  · exact (h.b8.kept hg (Ne.symm (own_ne_lin h.gat.own h.b8 (by decide)))).other (lin_ne h.b8 h.gat.box (by decide)) _
  · exact (heap_setCell_other _ _ _ _ (fun e => lin_def hl2 (hD2 D hD) e.symm)).trans (hD2 D hD)
  · rcases h5 with h5 | h5
    · rw [h5]; exact h.ow
    · rw [h5]
      intro e
      have := h.b7.lt
      have := Option.some.inj e
      omega
  · exact (KeepsOthers.of_grownBy hg (fun j o hj ho => by
      obtain ⟨_, hr2 | ⟨g, cap, cur, rfl, _, hg2, _⟩⟩ := h.gat.own
      · rw [hr2.1] at hj; cases hj
      · simp only [Value.ownBlock, Option.some.injEq] at hj
        subst hj
        rw [hg2] at ho
        cases ho
        rfl)).trans (KeepsOthers.setCell _ _ _)
  · exact (hc.kept hg (Ne.symm hT)).other hcc _
end
end Go.Proofs.Ytpkgfkeekcgkcaa

/-  The library's Reverse, of matches. -/
namespace Go.Proofs.Ytpkgfkeekcgkcaa
open Go.RowKit
namespace Mix
/-- one operation that yields a value, in a region walked in an order of one's own -/
theorem gval {P : Program} {ops : Array Oper} {W0 : World} {cls : Nat → Cls} {Q : Act → World → Prop} {i : Nat} {rest : List Nat} {a : Act} {w : World} (o : Oper) (ho : ops[i]? = some o) (hc : cls i = .val) (hv : valOp o.op = true) (hw : Region.wanted o (yielded ops a.tmps) = true)
    (h : ∀ K : Act → Prop, (∀ a', Good P ops W0 cls Q rest a' w → K a') → o.quiet P a (fun w' => ∃ x : Later W0, w' = x.w) K) : Good P ops W0 cls Q (i :: rest) a w := by
  obtain ⟨v, h1, h2⟩ := h (fun a' => Good P ops W0 cls Q rest a' w) (fun _ h => h)
  refine gcons o ho (.inr (.inl ⟨fun _ => hc, v, .inl ⟨hw, fun w' hw' => ?_⟩, h2⟩))
  have h3 := h1 w' hw'
  unfold Oper.quietAt at h3
  cases hr : (execOp a.eval o).run P w' with
  | ok n w1 =>
    obtain ⟨u, rfl⟩ := valOp_run hv hr
    rw [hr] at h3
    simp only [Oper.quietUpon] at h3
    rw [h3.1, h3.2]
  | halt x w1 => rw [hr] at h3; exact h3.elim
end Mix
/-- the list behind k exchanges -/
def rvL (ps : List (Int × Int)) (k : Nat) : List (Int × Int) := (List.range ps.length).map fun y => if y < k ∨ ps.length - k ≤ y then pr ps (ps.length - 1 - y) else pr ps y
theorem rvL_len (ps : List (Int × Int)) (k : Nat) : (rvL ps k).length = ps.length := by simp [rvL]
theorem rvL_at {ps : List (Int × Int)} {k y : Nat} (h : y < ps.length) : pr (rvL ps k) y = if y < k ∨ ps.length - k ≤ y then pr ps (ps.length - 1 - y) else pr ps y := by
  rw [pr_eq (by rw [rvL_len]; exact h)]
  simp [rvL]
theorem rvL_zero (ps : List (Int × Int)) : rvL ps 0 = ps := by
  refine List.ext_getElem (rvL_len ps 0) fun y h1 h2 => ?_
  rw [← pr_eq h1, ← pr_eq h2, rvL_at h2, if_neg (by omega)]
theorem rvL_end {ps : List (Int × Int)} {k : Nat} (h : ps.length ≤ 2 * k + 1) : rvL ps k = ps.reverse := by
  refine List.ext_getElem (by rw [rvL_len, List.length_reverse]) fun y h1 h2 => ?_
  rw [rvL_len] at h1
  rw [List.getElem_reverse, ← pr_eq (by rw [rvL_len]; exact h1), rvL_at h1, ← pr_eq (by omega)]
  by_cases c : y < k ∨ ps.length - k ≤ y
  · rw [if_pos c]
  · rw [if_neg c, show ps.length - 1 - y = y by omega]
theorem pr_set {ps : List (Int × Int)} {k : Nat} {p : Int × Int} (hk : k < ps.length) (j : Nat) : pr (ps.set k p) j = if j = k then p else pr ps j := by
  simp only [pr, List.getD_eq_getElem?_getD, List.getElem?_set]
  by_cases h : k = j
  · subst h; simp [hk]
  · rw [if_neg h, if_neg (fun e => h e.symm)]
theorem rvL_succ {ps : List (Int × Int)} {k : Nat} (h : 2 * k + 1 < ps.length) : ((rvL ps k).set k (pr ps (ps.length - 1 - k))).set (ps.length - 1 - k) (pr ps k) = rvL ps (k + 1) := by
  refine List.ext_getElem (by simp [rvL_len]) fun y h1 h2 => ?_
  rw [rvL_len] at h2
  rw [← pr_eq h1, ← pr_eq (by rw [rvL_len]; exact h2), pr_set (by rw [List.length_set, rvL_len]; omega), pr_set (by rw [rvL_len]; omega), rvL_at h2, rvL_at h2]
  by_cases c1 : y = ps.length - 1 - k
  · rw [if_pos c1, if_pos (by omega), show ps.length - 1 - y = k by omega]
  · rw [if_neg c1]
    by_cases c2 : y = k
    · rw [if_pos c2, if_pos (by omega), c2]
    · rw [if_neg c2]
      by_cases c3 : y < k ∨ ps.length - k ≤ y
      · rw [if_pos c3, if_pos (by omega)]
      · rw [if_neg c3, if_neg (by omega)]
set_option maxRecDepth 100000 in
set_option maxHeartbeats 4000000 in
theorem Reverse_calls (lo : Nat) (v : Value) (ps : List (Int × Int)) (W : World) (h : MtsM lo W v ps) (hl : ps.length ≤ 1000) :
    Calls Try.prog 90 #[v] W fun e w' => e = .returned (.tuple #[]) ∧ MtsM lo w' v ps.reverse ∧ W.grownBy w' v.ownBlock := by
  obtain ⟨a0, c0, rfl⟩ := h.form
  obtain ⟨n, hn⟩ : ∃ n, ps.length = n := ⟨_, rfl⟩
  have HN := Lib.hid hn
  rw [hn] at h hl ⊢
  by_cases h0 : n = 0
  · subst h0
    have hps : ps = [] := List.eq_nil_of_length_eq_zero hn
    clear hn HN
    subst hps
    have H := Lib.hid h
    clear h
    go_enter Try.func90, Try.ntmps90
    go_wp2
    go_loopw [2, 3] (fun i j wr => i = .int .i64 0 ∧ j = .int .i64 (-1) ∧ wr = W) (fun _ _ _ => 0)
    case atStart => exact ⟨rfl, rfl, rfl⟩
    obtain ⟨rfl, rfl, rfl⟩ := hrel
    go_wp2
    go_end0
    exact ⟨rfl, H.out, World.grownBy.refl _ _⟩
  obtain ⟨g, rfl, -, hlo, hgl, hnc, -, -, -⟩ := h.set (k := 0) (by rw [hn]; omega) (0, 0)
  have hn1 : 1 ≤ n := by omega
  clear hn h0
  go_enter Try.func90, Try.ntmps90
  go_wp2
  go_loopw [2, 3] (fun i j wr => ∃ (k : Nat), i = .int .i64 k ∧ j = .int .i64 ((n : Int) - 1 - k) ∧ 2 * k ≤ n ∧ MtsM lo wr (.slice (some ⟨g, 0, none⟩) n c0) (rvL ps k) ∧ W.grownBy wr (some g)) (fun i _ _ => n - (intOf i).toNat)
  case atStart => exact ⟨0, rfl, by simp, by omega, by rw [rvL_zero]; exact h, World.grownBy.refl W _⟩
  clear h
  obtain ⟨k, rfl, rfl, hk, hM, hG⟩ := hrel
  by_cases hlt : 2 * k + 1 < n
  · obtain ⟨m, hm⟩ : ∃ m, n - 1 - k = m := ⟨_, rfl⟩
    have hmi : (n : Int) - 1 - k = (m : Int) := by omega
    rw [hmi]
    have hkm : k < m := by omega
    have hmn : m < n := by omega
    have hPr := hM.prs (by rw [rvL_len, HN.out]; omega)
    obtain ⟨b', o', c', e, -, hb', hg'⟩ := hPr.at (k := k) (by rw [rvL_len, HN.out]; omega)
    injection e with e1 e2 e3
    injection e1 with e1
    injection e1 with e4 e5
    subst e4 e5
    clear e2 e3 hPr
    obtain ⟨p1, p2⟩ := hg' k (by rw [rvL_len, HN.out]; omega)
    obtain ⟨q1, q2⟩ := hg' m (by rw [rvL_len, HN.out]; omega)
    rw [rvL_at (by rw [HN.out]; omega), if_neg (by rw [HN.out]; omega)] at p1 p2 q1 q2
    rw [Nat.zero_add] at p1 p2 q1 q2
    obtain ⟨X1, hx1⟩ : ∃ v, (pr ps k).1 = v := ⟨_, rfl⟩
    obtain ⟨X2, hx2⟩ : ∃ v, (pr ps k).2 = v := ⟨_, rfl⟩
    obtain ⟨y1, hy1⟩ : ∃ v, (pr ps m).1 = v := ⟨_, rfl⟩
    obtain ⟨y2, hy2⟩ : ∃ v, (pr ps m).2 = v := ⟨_, rfl⟩
    rw [hx1] at p1
    rw [hx2] at p2
    rw [hy1] at q1
    rw [hy2] at q2
    have HX := Lib.hid (show pr ps k = (X1, X2) from Prod.ext hx1 hx2)
    have HY := Lib.hid (show pr ps m = (y1, y2) from Prod.ext hy1 hy2)
    clear hg' hx1 hx2 hy1 hy2 hm
    have dlt : decide ((k : Int) < (m : Int)) = true := decide_eq_true (by omega)
    go_wp2_with fail
    refine wp_region_any (by kernel_rfl) ?_
    refine wpAny_take (i := 2) (v := .slice (some ⟨g, 0, none⟩) n c0) rfl (by kernel_rfl) (by kernel_rfl) (by kernel_rfl) (fun _ _ _ h => h) (.inl ⟨by rfl, fun w => by rfl⟩) ?_
    simp only [List.getElem_toArray, List.getElem_cons_succ, List.getElem_cons_zero, Act.put, List.setIfInBounds_toArray, List.set]
    refine wpAny_take (i := 3) (v := .int .i64 (m : Int)) rfl (by kernel_rfl) (by kernel_rfl) (by kernel_rfl) (fun _ _ _ h => h) (.inl ⟨by rfl, fun w => by rfl⟩) ?_
    simp only [List.getElem_toArray, List.getElem_cons_succ, List.getElem_cons_zero, Act.put, List.setIfInBounds_toArray, List.set]
    refine Mix.any_rest (W0 := wr) (rem := [0, 1, 4, 5, 6, 7, 8, 9, 10, 11, 12, 13, 14, 15]) (cls := Mix.kinds [] [] [13, 14, 15]) (by kernel_rfl) ⟨Later.draw _, rfl⟩ ?_
    show Mix.Good _ _ _ _ _ _ _ (Later.draw wr).w
    iterate 11 (refine Mix.gval _ rfl rfl (by rfl) (by rfl) (fun K hK => ?_); (simp only [List.getElem_toArray, List.getElem_cons_succ, List.getElem_cons_zero]); go_big_quiet_op; refine hK _ ?_; clear hK K)
    refine Mix.glast _ rfl rfl (by rfl) (by decide) (fun x1 K1 hK1 => ?_)
    obtain ⟨g1, e1, -, -, gs1, -, fr1, hI1, hG1⟩ := ((hM.later (Later.draw wr)).later x1).set (k := k) (by rw [rvL_len, HN.out]; omega) (y1, y2)
    cases e1
    have fk0 := fr1 (k * 2)
    have fk1 := fr1 (k * 2 + 1)
    dsimp only at hI1 hG1
    replace p1 := (((Later.draw wr).step x1).cell hb').trans p1
    replace p2 := (((Later.draw wr).step x1).cell hb').trans p2
    simp only [Later.step_w] at p1 p2
    simp only [List.getElem_toArray, List.getElem_cons_succ, List.getElem_cons_zero]
    clear q1 q2 fr1
    go_wp2_with fail
    clear fk0 fk1 gs1
    obtain ⟨V1, hV1⟩ : ∃ V, (x1.w.setCell ⟨g, k * 2, none⟩ (.int .i64 y1)).setCell ⟨g, k * 2 + 1, none⟩ (.int .i64 y2) = V := ⟨_, rfl⟩
    rw [hV1] at hI1 hG1 ⊢
    have hg1 := grown_trans (grown_trans (grown_up (Later.draw wr).grown : wr.grownBy _ (some g)) (grown_up x1.grown)) hG1
    clear hV1 hG1 hM p1 p2 x1
    refine Mix.glast _ rfl rfl (by rfl) (by decide) (fun x2 K2 hK2 => ?_)
    simp only [List.getElem_toArray, List.getElem_cons_succ, List.getElem_cons_zero]
    go_wp2_with fail
    refine Mix.glast _ rfl rfl (by rfl) (by decide) (fun x3 K3 hK3 => ?_)
    simp only [List.getElem_toArray, List.getElem_cons_succ, List.getElem_cons_zero]
    obtain ⟨g1, e1, -, -, gs1, -, fr1, hI2, hG2⟩ := ((hI1.later x2).later x3).set (k := m) (by rw [List.length_set, rvL_len, HN.out]; omega) (X1, X2)
    cases e1
    have fk0 := fr1 (m * 2)
    have fk1 := fr1 (m * 2 + 1)
    dsimp only at hI2 hG2
    have hPr := ((hI1.later x2).later x3).prs (by rw [List.length_set, rvL_len, HN.out]; omega)
    obtain ⟨b', o', c', e, -, -, hg'⟩ := hPr.at (k := m) (by rw [List.length_set, rvL_len, HN.out]; omega)
    injection e with e1 e2 e3
    injection e1 with e1
    injection e1 with e4 e5
    subst e4 e5
    clear e2 e3 hPr
    obtain ⟨q1, q2⟩ := hg' m (by rw [List.length_set, rvL_len, HN.out]; omega)
    rw [Nat.zero_add] at q1 q2
    clear hg'
    go_wp2_with fail
    clear fk0 fk1 fr1 gs1 q1 q2
    obtain ⟨V2, hV2⟩ : ∃ V, (x3.w.setCell ⟨g, m * 2, none⟩ (.int .i64 X1)).setCell ⟨g, m * 2 + 1, none⟩ (.int .i64 X2) = V := ⟨_, rfl⟩
    rw [hV2] at hI2 hG2 ⊢
    have hg2 := grown_trans (grown_trans (grown_trans hg1 (grown_up x2.grown)) (grown_up x3.grown)) hG2
    clear hV2 hG2 hI1 x3 x2 hg1 V1
    refine Mix.gdone (fun x4 => ?_)
    have HI := Lib.hid (show MtsM lo x4.w (.slice (some ⟨g, 0, none⟩) n c0) (rvL ps (k + 1)) by
      have h9 := rvL_succ (ps := ps) (k := k) (by rw [HN.out]; exact hlt)
      rw [HN.out, show n - 1 - k = m by omega, HX.out, HY.out] at h9
      rw [← h9]; exact hI2.later x4)
    have HG := Lib.hid (grown_trans hG (grown_trans hg2 (grown_up x4.grown)))
    clear hI2 hg2 hG
    go_wp2
    go_roundw
    case rel => first | exact ⟨k + 1, by first | rfl | go_num, by first | rfl | (congr 1; push_cast; omega), by omega, HI.out, HG.out⟩ | ((repeat apply Exists.intro); exact ⟨⟨k + 1, by first | rfl | go_num, by first | rfl | (congr 1; push_cast; omega), by omega, HI.out, HG.out⟩, rfl⟩)
    case measure => simp [intOf] <;> omega
  have dlt : decide ((k : Int) < (n : Int) - 1 - (k : Int)) = false := decide_eq_false (by omega)
  have HE := Lib.hid (rvL_end (ps := ps) (k := k) (by rw [HN.out]; omega))
  go_wp2
  go_end0
  exact ⟨rfl, by rw [← HE.out]; exact hM, hG⟩
end Go.Proofs.Ytpkgfkeekcgkcaa

/-  The program's common. -/
namespace Go.Proofs.Ytpkgfkeekcgkcaa
open Go.RowKit Go.Shelf
open Lcs (lc ch len CP)
attribute [local go_sem] Oper.semAt_some
/-- what common returns: a longest common part -/
def ComN (a b : List UInt8) (W : World) (e : Ending) (w' : World) : Prop := ∃ (v : Value) (ps : List (Nat × Nat)) (x : Later W), e = .returned v ∧ w' = x.w ∧ MtsM W.heap.size x.w v (ps.map natP) ∧ CP a b ps ∧ ps.length = len a b
/-- the first map, copied as far as the keys S -/
def Cpy (M ML : PM) (S : List PK) : Prop := ∀ k, Tb.get ML k = if k ∈ S then Tb.get M k else none
theorem Cpy.start (M : PM) : Cpy M [] [] := fun k => by simp [Tb.get]
theorem Cpy.step {M ML : PM} {S : List PK} (h : Cpy M ML S) {p : PK × Int} (hp : Tb.get M p.1 = some p.2) : Cpy M (Tb.put ML p.1 p.2) (p.1 :: S) := fun k => by
  rw [Tb.get_put, h k]
  by_cases e : k = p.1
  · rw [if_pos e, if_pos (by simp [e]), e, hp]
  · rw [if_neg e]
    by_cases hk : k ∈ S
    · rw [if_pos hk, if_pos (by simp [hk])]
    · rw [if_neg hk, if_neg (by simp [e, hk])]
theorem Cpy.all {M ML : PM} {S : List PK} (h : Cpy M ML S) (hS : ∀ p ∈ M, p.1 ∈ S) : ∀ k, Tb.get ML k = Tb.get M k := fun k => by
  rw [h k]
  by_cases hk : k ∈ S
  · rw [if_pos hk]
  · rw [if_neg hk]
    cases hg : Tb.get M k with
    | none => rfl
    | some v => exact absurd (hS _ (mem_get hg)) hk
theorem frame_ex (ts : Array Value) (ds : List Deferred) (mk : (Nat → Value) → Array Value) (h : ts = mk (fun i => ts.getD i undef)) : ∃ u, ({ tmps := ts, defers := ds } : Act) = { tmps := mk u, defers := ds } := ⟨_, congrArg (fun t => ({ tmps := t, defers := ds } : Act)) h⟩
set_option maxRecDepth 100000 in
set_option maxHeartbeats 8000000 in
theorem common_calls (p mp lo : Nat) (a b : List UInt8) (M : PM) (ha : a.length ≤ 12) (hb : b.length ≤ 12) (W : World) (hD : Pair lo W p mp a b M) (hM : ∀ k, Tb.get M k = labO a b a.length 0 k) :
    Calls Try.prog 71 #[.pointer (some ⟨p, 0, none⟩)] W (ComN a b W) := by
  have HD := Lib.hid hD
  have HM := Lib.hid hM
  have HA := Lib.hid ha
  have HB := Lib.hid hb
  clear hM ha hb
  refine (callsIn_wide (n := 6)).1 ?_
  refine callsIn_of_wp_marks Try.func71 rfl trivial ?_ rfl
  simp only [Try.ntmps71, List.size_toArray, List.length_cons, List.length_nil, Nat.reduceAdd, Nat.reduceSub, Array.replicate_succ, Array.replicate_zero, List.push_toArray, List.append_toArray, List.nil_append, List.cons_append]
  refine wpIn_wide.2 ?_
  have hmm := @run_makeMap Try.prog
  obtain ⟨U1, hU1⟩ : ∃ U1 : Later W, U1.w = (W.alloc (.map #[] 0)).alloc (.cells #[.map (some W.heap.size)] 112) := ⟨(Later.new _ _).step (Later.new _ _), rfl⟩
  have hP1 := hD.later U1
  have d2 := hP1.blk.cell (k := 2) rfl
  have dl := hP1.blk.lt
  obtain ⟨ob, hrg, hR⟩ := hP1.tab.range Try.underlying112
  rw [hU1] at d2 dl hrg
  clear hD
  go_wp2
  refine wp_scope_straight ?_
  go_wp2
  clear hrg d2 dl hmm
  obtain ⟨c3, hc3⟩ : ∃ c, W.heap.size + 1 = c := ⟨_, rfl⟩
  obtain ⟨ml, hml⟩ : ∃ c, W.heap.size = c := ⟨_, rfl⟩
  obtain ⟨r, hr⟩ : ∃ c, W.heap.size + 1 + 1 = c := ⟨_, rfl⟩
  have hur : U1.w.heap.size = r := by rw [hU1, ← hr]; simp
  obtain ⟨V0, hV0⟩ : ∃ V0 : Later W, V0.w = U1.w.alloc ob := ⟨U1.step (Later.new _ _), rfl⟩
  have hL3 : Lin V0.w c3 112 [.map (some ml)] := by
    rw [hV0, hU1, ← hc3, ← hml]
    refine Lin.later (x := Later.new _ _) ?_
    exact (congrArg _ (by simp)).trans (World.alloc_heap_new _ _)
  have hT0 : Tb.Tab keyV numV V0.w ml [] := by
    rw [hV0, hU1, ← hml]
    refine Tb.Tab.later ?_ (Later.new _ _)
    refine Tb.Tab.nil _ ?_
    rw [Below.heap_alloc _ _ _ (by simp)]
    exact World.alloc_heap_new _ _
  rw [hur] at hR
  rw [← hV0] at hR
  rw [← hU1, ← hV0]
  rw [hr, hc3, hml]
  have hmlr : ml < r := by omega
  have hcr : c3 < r := by omega
  have hmlc : ml ≠ c3 := by omega
  have hmpl : mp < ml := by rw [← hml]; exact HD.out.tab.lt
  have hWr : W.heap.size ≤ r := by omega
  have hWl : W.heap.size ≤ ml := by omega
  have hWc : W.heap.size ≤ c3 := by omega
  have hnd : (M.map (·.1)).Nodup := by obtain ⟨_, _, _, _, hh, _⟩ := HD.out.tab; exact hh
  have HND := Lib.hid hnd
  clear hV0 hU1 hur hr hc3 hml hP1 U1 hnd
  go_loopg [17] (leftS M []) (fun g _ wr => ∃ (S : List PK) (ML : PM) (V : Later W), wr = V.w ∧ g = leftS M S ∧ Lin V.w c3 112 [.map (some ml)] ∧ Tb.Tab keyV numV V.w ml ML ∧ Hid (Cpy M ML S) ∧ Tb.Rng keyV numV V.w mp r M S)
  case atStart => exact ⟨[], [], V0, rfl, rfl, hL3, hT0, Lib.hid (Cpy.start M), hR⟩
  case round =>
    clear hL3 hT0 hR V0
    obtain ⟨S, ML, V, rfl, rfl, hL3, hT, hC, hR⟩ := hrel
    rcases hR.next match_keys 0 with ⟨hall, hrun⟩ | ⟨q, hq, hqS, o, k, hrun, hR2, hent⟩
    · have HLF := Lib.hid (Lf.start (a := a) (b := b) (ML := ML) (fun k => by rw [hC.out.all hall, HM.out]))
      clear hR hall hC
      have hP := HD.out.later V
      have q0 := hP.blk.cell (k := 0) rfl
      have q1 := hP.blk.cell (k := 1) rfl
      have ql := hP.blk.lt
      go_wp2
      clear hrun
      obtain ⟨c6, hc6⟩ : ∃ c, c = V.w.heap.size := ⟨_, rfl⟩
      obtain ⟨Y, hY⟩ : ∃ Y : Later V.w, Y.w = V.w.alloc (.cells #[.slice none 0 0] 100) := ⟨Later.new _ _, rfl⟩
      have h6 : Lin Y.w c6 100 [.slice none 0 0] := by rw [hY, hc6]; exact Lin.new _ _ [_]
      have h3 := hL3.later Y
      replace hT := hT.later Y
      replace q0 := (Y.cell ql).trans q0
      replace q1 := (Y.cell ql).trans q1
      replace ql := Nat.lt_of_lt_of_le ql Y.size
      rw [← hY, ← hc6]
      have hl6 : W.heap.size ≤ c6 := by rw [hc6]; exact V.size
      clear hY hc6 hL3 hP
      obtain ⟨na, hna⟩ : ∃ n, a.length = n := ⟨_, rfl⟩
      obtain ⟨nb, hnb⟩ : ∃ n, b.length = n := ⟨_, rfl⟩
      have hsa : (⟨a.toArray⟩ : ByteArray).size = na := by rw [str_size]; exact hna
      have hsb : (⟨b.toArray⟩ : ByteArray).size = nb := by rw [str_size]; exact hnb
      rw [hna, hnb] at HLF
      have HNA := Lib.hid hna
      have HNB := Lib.hid hnb
      have hn12 : na ≤ 12 ∧ nb ≤ 12 := by rw [← hna, ← hnb]; exact ⟨HA.out, HB.out⟩
      clear hna hnb
      go_wp2
      refine Mix.region_mixL (Mix.kinds [11] [] [12]) (by kernel_rfl) (by kernel_rfl) ?_
      repeat ((with_reducible refine Mix.atCons ?_); first | refine Mix.skipU (by rfl) rfl (by rfl) ?_ | (refine Mix.val rfl rfl (by rfl) (fun K hK => ?_); go_big_quiet_op; refine hK _ ?_; clear hK K) | (refine Mix.skip (by rfl) ?_; go_frame))
      refine Mix.new rfl (by rfl) (fun b => .pointer (some ⟨b, 0, none⟩)) (.cells #[.int .i64 0, .int .i64 0] 103) (fun w => by simp [go_sem]) (fun c7 x1 hE7 hx1 => ?_)
      try go_frame
      refine Mix.last rfl (by rfl) (fun x2 K2 hK2 => ?_)
      have h7 : Lin x2.w c7 103 [.int .i64 0, .int .i64 0] := Lin.later (x := x2) (show x1.w.heap[c7]? = _ from hx1)
      have w0 := h7.cell (k := 0) rfl
      have w1 := h7.cell (k := 1) rfl
      have wf0 := h7.frozen 0
      have wf1 := h7.frozen 1
      have wl := h7.lt
      have hl7 : W.heap.size ≤ c7 := Nat.le_trans (V.step Y).size hE7
      have hn3 : c3 ≠ c7 := by have := h3.lt; omega
      have hn6 : c6 ≠ c7 := by have := h6.lt; omega
      have hnm : ml ≠ c7 := by have := hT.lt; omega
      have H7 := Lib.hid ((h7.set 0 (.int .i64 na)).set 1 (.int .i64 nb))
      have H3 := Lib.hid ((((h3.later x1).later x2).other (k := 0) hn3 (.int .i64 na)).other (k := 1) hn3 (.int .i64 nb))
      have H6 := Lib.hid ((((h6.later x1).later x2).other (k := 0) hn6 (.int .i64 na)).other (k := 1) hn6 (.int .i64 nb))
      have HT := Lib.hid (show Tb.Tab keyV numV ((x2.w.setCell ⟨c7, 0, none⟩ (.int .i64 na)).setCell ⟨c7, 1, none⟩ (.int .i64 nb)) ml ML from ((hT.later x1).later x2).same ((heap_setCell_other _ _ _ _ hnm).trans (heap_setCell_other _ _ _ _ hnm)))
      have HBW := Lib.hid ((((((V.step Y).step x1).step x2).le.setCell (p := ⟨c7, 0, none⟩) hl7 (.int .i64 na))).setCell (p := ⟨c7, 1, none⟩) hl7 (.int .i64 nb))
      clear h7 h3 h6 hT hx1 hE7
      go_wp2_with fail
      clear w0 w1 wf0 wf1 wl
      refine Mix.done (fun x3 => ?_)
      obtain ⟨Z, hZ⟩ : ∃ Z : Later W, Z.w = x3.w := ⟨⟨x3.w, HBW.out.trans (x3.le.mono HBW.out.size)⟩, rfl⟩
      have h7 := H7.out.later x3
      have h3 := H3.out.later x3
      have h6 := H6.out.later x3
      have hT := HT.out.later x3
      rw [← hZ] at h7 h3 h6 hT ⊢
      clear hZ H7 H3 H6 HT HBW x3 x2 x1 q0 q1 ql
      go_wp2
      go_step3
      go_wp2_with fail
      refine (most_calls p mp lo a b M HA.out HB.out _ (HD.out.later Z) HM.out).mono ?_
      rintro e w' ⟨rfl, y, rfl⟩
      obtain ⟨L, hL⟩ : ∃ L, len a b = L := ⟨_, rfl⟩
      have HPK := Lib.hid (Pk.start a b)
      rw [hL, HNA.out, HNB.out] at HPK
      rw [hL]
      have hL12 : L ≤ 12 := by rw [← hL]; exact Nat.le_trans (Lcs.len_le a b).1 HA.out
      have HLE := Lib.hid hL
      clear hL
      go_wp2
      obtain ⟨c8, hc8⟩ : ∃ c, c = y.w.heap.size := ⟨_, rfl⟩
      obtain ⟨U, hU⟩ : ∃ U : Later W, U.w = y.w.alloc (.cells #[.int .i64 L] 3) := ⟨(Z.step y).step (Later.new _ _), rfl⟩
      have hC : Cm W U.w c3 ml c6 (.slice none 0 0) c7 c8 ML [] (na, nb) L [] := by
        refine ⟨⟨U.le, ?_, MtsM.nil _ _, hl6⟩, ?_, ?_, ?_, ?_, fun D hD => absurd hD (by simp), List.nodup_nil, hWc, hWl, hl7, by rw [hc8]; exact (Z.step y).size, by simp [Value.ownBlock]⟩
        · rw [hU]; exact (h6.later y).later (Later.new _ _)
        · rw [hU]; exact (h3.later y).later (Later.new _ _)
        · rw [hU]; exact (hT.later y).later (Later.new _ _)
        · rw [hU]; exact (h7.later y).later (Later.new _ _)
        · rw [hU, hc8]; exact Lin.new _ _ [_]
      rw [← hU, ← hc8]
      clear hU hc8 h7 h3 h6 hT y Z Y V
      refine wp_loop_ghost (fun n a' wr => ∃ (v : Value) (c8 : Nat) (ML : PM) (os : List (Nat × Nat)) (e1 e2 : Nat) (Ds : List Nat), Cm W wr c3 ml c6 v c7 c8 ML os (e1, e2) n Ds ∧ Hid (Pk a b n (e1, e2) os) ∧ Hid (Lf a b (e1, e2) ML) ∧ ∃ u : Nat → Value, a' = { tmps := #[.pointer (some ⟨p, 0, none⟩), u 1, u 2, .pointer (some ⟨c3, 0, none⟩), u 4, u 5, .pointer (some ⟨c6, 0, none⟩), .pointer (some ⟨c7, 0, none⟩), .pointer (some ⟨c8, 0, none⟩), u 9, u 10, u 11, u 12, u 13, u 14, u 15, u 16, u 17, u 18, u 19, u 20, u 21, u 22, u 23, u 24, u 25, u 26, u 27, u 28, u 29, u 30, u 31, u 32, u 33, u 34, u 35, u 36, u 37, u 38, u 39, u 40, u 41, u 42, u 43, u 44, u 45, u 46, u 47, u 48, u 49, u 50, u 51, u 52, u 53, u 54, u 55, u 56, u 57, u 58, u 59, u 60, u 61, u 62, u 63, u 64, u 65, u 66, u 67, u 68, u 69, u 70], defers := Ds.map mark }) L ?start ?round
      case start =>
        exact ⟨_, c8, ML, [], na, nb, [], hC, HPK, HLF, frame_ex _ _ _ rfl⟩
      case round =>
        clear hC HPK HLF U c8 ML
        rintro n a' wr ⟨v, c8, ML, os, e1, e2, Ds, hC, HPK, HLF, u, rfl⟩
        dsimp only
        have n0 := hC.b8.cell (k := 0) rfl
        have nl := hC.b8.lt
        by_cases hn : n = 0
        · subst hn
          have g0 := hC.gat.box.cell (k := 0) rfl
          have gl := hC.gat.box.lt
          have hln := HPK.out.ln
          have hol : (os.map natP).length ≤ 1000 := by rw [List.length_map]; have := (Lcs.len_le a b).1; have := HA.out; omega
          have HLN := Lib.hid (show os.reverse.length = len a b by rw [List.length_reverse]; omega)
          have hown := hC.gat.own
          have hbox := hC.gat.box
          have hne := hC.gat.ne
          have hbel := hC.bel
          have HDS := Lib.hid hC.ds
          have HNDs := Lib.hid hC.nd
          obtain ⟨v0, k0, k1', rfl⟩ := hown.form'
          clear hln hC
          go_wp2_with fail
          clear g0 gl n0 nl
          refine (Reverse_calls W.heap.size _ (os.map natP) wr hown hol).mono ?_
          rintro e w' ⟨rfl, hrev, hg⟩
          have hb2 := hbox.kept hg (Ne.symm hne)
          have g0 := hb2.cell (k := 0) rfl
          have gl := hb2.lt
          have HBL := Lib.hid (hbel.grown hg hbel.size (fun k hk => (World.ownsRow.lt hown k hk).1))
          have HD2 := Lib.hid (show ∀ D ∈ Ds, W.heap.size ≤ D ∧ w'.heap[D]? = some (.deferred (some [])) from fun D hD => ⟨(HDS.out D hD).1, (hg.block D (Array.getElem?_eq_some_iff.1 (HDS.out D hD).2).1 (fun e => own_def hown (HDS.out D hD).2 e.symm)).trans (HDS.out D hD).2⟩)
          rw [← List.map_reverse] at hrev
          have HRV := Lib.hid hrev
          clear hrev hg hb2 hown hbox hne hbel hol
          go_wp2
          refine leaves_marks (by simp) (fun U => Below W.heap.size W U ∧ MtsM W.heap.size U (.slice v0 k0 k1') (os.reverse.map natP)) W.heap.size (fun U D hD hK hU => ⟨hU.1.grown (grownBy_putObj' U D (.deferred none)) hU.1.size (fun r e => by cases e; exact hD), hU.2.kept (grownBy_putObj' U D (.deferred none)) ?_⟩) (fun U hU => ?_) Ds _ HNDs.out HD2.out ⟨HBL.out, HRV.out⟩
          · exact .inr (own_def hU.2 hK)
          · refine ⟨_, results_tmp rfl _ _ _, ?_⟩
            exact ⟨.slice v0 k0 k1', os.reverse, ⟨U, hU.1⟩, rfl, rfl, hU.2, HPK.out.cp, HLN.out⟩
        · obtain ⟨n, rfl⟩ : ∃ m, n = m + 1 := ⟨n - 1, by omega⟩
          have m0 := hC.b3.cell (k := 0) rfl
          have ml0 := hC.b3.lt
          obtain ⟨ob, hrg, hR⟩ := hC.tab.range Try.underlying112
          obtain ⟨r, hr⟩ : ∃ r, wr.heap.size = r := ⟨_, rfl⟩
          have hr8 : W.heap.size ≤ r ∧ r ∉ Ds ∧ c3 ≠ r ∧ ml ≠ r ∧ c6 ≠ r ∧ v.ownBlock ≠ some r ∧ c7 ≠ r ∧ c8 ≠ r := by
            rw [← hr]
            refine ⟨hC.bel.size, fun hm => ?_, Nat.ne_of_lt hC.b3.lt, Nat.ne_of_lt hC.tab.lt, Nat.ne_of_lt hC.gat.box.lt, fun e => ?_, Nat.ne_of_lt hC.b7.lt, Nat.ne_of_lt hC.b8.lt⟩
            · have := (Array.getElem?_eq_some_iff.1 (hC.ds _ hm).2).1; omega
            · have := (World.ownsRow.lt hC.gat.own _ e).2; omega
          have hC1 := hC.later (Later.new wr ob)
          rw [Later.new_w] at hC1
          go_wp2
          rw [hr] at hR
          try rw [hr]
          have HML := Lib.hid (show ∀ p ∈ ML, p ∈ ML from fun p hp => hp)
          clear hrg hC n0 nl m0 ml0 hr hn
          obtain ⟨V0, hV0⟩ : ∃ V, V = wr.alloc ob := ⟨_, rfl⟩
          rw [← hV0] at hC1 hR ⊢
          clear hV0
          go_loopg [44] (leftS ML []) (fun g _ wr => ∃ (S : List PK) (ML' : PM), g = leftS ML S ∧ Cm W wr c3 ml c6 v c7 c8 ML' os (e1, e2) (n + 1) Ds ∧ Tb.Rng keyV numV wr ml r ML' S ∧ Hid (Lf a b (e1, e2) ML') ∧ Hid (∀ p ∈ ML', p ∈ ML) ∧ Hid (∀ p ∈ ML', p.1 ∈ S → befP p.1 ((e1 : Int), (e2 : Int)) = true))
          case atStart => exact ⟨[], ML, rfl, hC1, hR, HLF, HML, Lib.hid (fun p _ hp => absurd hp (by simp))⟩
          case round =>
            clear hC1 hR V0
            obtain ⟨S, ML', rfl, hC, hR, HLF', HSUB, HSEE⟩ := hrel
            have m0 := hC.b3.cell (k := 0) rfl
            have ml0 := hC.b3.lt
            rcases hR.next match_keys 0 with ⟨hall, hrun⟩ | ⟨q, hq, hqS, o, k, hrun, hR2, hent⟩
            · have HLB := Lib.hid (show ∀ p ∈ ML', befP p.1 ((e1 : Int), (e2 : Int)) = true from fun p hp => HSEE.out p hp (hall p hp))
              clear hR hall HSEE HSUB
              go_wp2_with fail
              refine (matches_calls p _).mono ?_
              rintro e w' ⟨rfl, rfl⟩
              go_wp2
              clear hrun m0 ml0
              obtain ⟨c2, hc2⟩ : ∃ c, c = wr.heap.size := ⟨_, rfl⟩
              obtain ⟨U0, hU0⟩ : ∃ U0, U0 = wr.alloc (.cells #[.pointer (some ⟨p, 0, none⟩)] 95) := ⟨_, rfl⟩
              have hC0 : Cm W U0 c3 ml c6 v c7 c8 ML' os (e1, e2) (n + 1) Ds := by rw [hU0]; exact hC.later (Later.new wr _)
              have hL2 : Lin U0 c2 95 [.pointer (some ⟨p, 0, none⟩)] := by rw [hU0, hc2]; exact Lin.new _ _ [_]
              rw [← hc2, ← hU0]
              have hn3 : c2 ≠ c6 := by have := hC.gat.box.lt; omega
              have hn7 : c2 ≠ c7 := by have := hC.b7.lt; omega
              have hWU := hC0.bel.size
              have hmU := hC0.tab.lt
              have hDU : ∀ D ∈ Ds, D < U0.heap.size := fun D hD => (Array.getElem?_eq_some_iff.1 (hC0.ds D hD).2).1
              have hnd2 : (ML'.map (·.1)).Nodup := by obtain ⟨_, _, _, _, hh, _⟩ := hC0.tab; exact hh
              have HND2 := Lib.hid hnd2
              have HDU := Lib.hid hDU
              have h7l := hC0.b7.lt
              have HVB := Lib.hid (show ∀ k, v.ownBlock = some k → k < U0.heap.size from fun k hk => (World.ownsRow.lt hC0.gat.own k hk).2)
              clear hc2 hU0 hC hnd2 hDU
              refine (wpIn_wide (n := 6)).1 ?_
              refine wpIn_rangeFunc_ownH (F := Fence.wide) (n := 6) rfl (by decide) (gf := 93) (lb := #[.pointer (some ⟨c2, 0, none⟩)]) rfl trivial (enters_of Try.func93 (by kernel_rfl) rfl)
                (matches_stops 5 c2 p lo mp a b M HA.out HB.out W HD.out U0 hC0.bel (hL2.cell (k := 0) rfl)) (fun h k => h.t k) (KpM.b hWU hL2.lt) (Below.refl _ _) (fun _ => rfl)
                (fun (pre : List (Mt a b)) U => Cm W U c3 ml c6 v c7 c8 ML' os (e1, e2) (n + 1) Ds ∧ Lin U c2 95 [.pointer (some ⟨p, 0, none⟩)] ∧ Hid (∀ x ∈ pre, Tb.get ML' (mtI x) ≠ some ((n + 1 : Nat) : Int)) ∧ U0.heap.size ≤ U.heap.size)
                (fun c _ U => c = .exit 3 ∧ ∃ (v' : Value) (i j : Nat), Cm W U c3 ml c6 v' c7 c8 ML' (os ++ [(i, j)]) (i, j) (n + 1) Ds ∧ Hid (i < e1 ∧ j < e2 ∧ ch a i = ch b j ∧ lc a b i j = n) ∧ U0.heap.size ≤ U.heap.size) ?grw ?grx2
                ⟨hC0, hL2, Lib.hid (fun x hx => absurd hx (by simp)), Nat.le_refl _⟩
                (fun x a' U => ∃ bb : Nat, Lin U bb 103 [.int .i64 (x.1.1 : Int), .int .i64 (x.1.2 : Int)] ∧ U0.heap.size ≤ bb ∧ ∃ u : Nat → Value, a' = { tmps := #[.pointer (some ⟨p, 0, none⟩), u 1, u 2, .pointer (some ⟨c3, 0, none⟩), u 4, u 5, .pointer (some ⟨c6, 0, none⟩), .pointer (some ⟨c7, 0, none⟩), .pointer (some ⟨c8, 0, none⟩), u 9, .pointer (some ⟨bb, 0, none⟩), u 11, u 12, u 13, u 14, u 15, u 16, u 17, u 18, u 19, u 20, u 21, u 22, u 23, u 24, u 25, u 26, u 27, u 28, u 29, u 30, u 31, u 32, u 33, u 34, u 35, u 36, u 37, u 38, u 39, u 40, u 41, u 42, u 43, u 44, u 45, u 46, u 47, u 48, u 49, u 50, u 51, u 52, u 53, u 54, u 55, u 56, u 57, u 58, u 59, u 60, u 61, u 62, u 63, u 64, u 65, u 66, u 67, u 68, u 69, u 70], defers := [] }) ?grx ?assign ?body ?done ?stop
              case grw =>
                rintro pre A B row ⟨h1, h2, h3, h5⟩ hg hr
                refine ⟨h1.walks hg hr hWU hmU HDU.out, h2.kept hg (fun e => ?_), h3, Nat.le_trans h5 hg.size⟩
                obtain ⟨o, ho, hcl⟩ := (hr _ e.symm).2
                rw [show A.heap[_]? = _ from h2] at ho
                cases ho
                cases hcl
              case grx2 =>
                rintro c pre A B row ⟨rfl, v', i, j, h1, h3, h5⟩ hg hr
                exact ⟨rfl, v', i, j, h1.walks hg hr hWU hmU HDU.out, h3, Nat.le_trans h5 hg.size⟩
              case grx =>
                rintro x a' _ A B row ⟨bb, h1, h2, h3⟩ hg hr
                exact ⟨bb, h1.kept hg (fun e => by
                  obtain ⟨o, ho, hcl⟩ := (hr bb e.symm).2
                  rw [show A.heap[bb]? = _ from h1] at ho
                  cases ho
                  cases hcl), h2, h3⟩
              case assign =>
                rintro l pre ⟨⟨i, j⟩, hi, hj, hch⟩ U K ⟨h1, h2, h3, h5⟩ hK
                simp only [mtE]
                gi_wp2
                refine hK _ _ (KeepsFrom.of (Later.new U _)) (KpM.of (Later.new U _) h1.bel.size h2.lt) ⟨h1.later (Later.new U _), h2.later (Later.new U _), h3, Nat.le_trans h5 (Later.new U _).size⟩ ?_
                exact ⟨U.heap.size, Lin.new U _ [_, _], h5, frame_ex _ _ _ rfl⟩
              case body =>
                rintro l pre ⟨⟨i, j⟩, hi, hj, hch⟩ a' U - - ⟨h1, h2, h3, h5⟩ ⟨bb, hbb, hbl, u, rfl⟩ hlen
                have hlab := look_get ML' ((i : Int), (j : Int)) rfl
                obtain ⟨z, hz⟩ : ∃ z, (Tb.get ML' ((i : Int), (j : Int))).getD 0 = z := ⟨_, rfl⟩
                rw [hz] at hlab
                have hlook := fun (x : Later U) => (h1.tab.later x).look match_keys Try.underlying112 (z := .int .i64 0) (fun w => by kernel_rfl) ((i : Int), (j : Int)) false
                rw [hlab] at hlook
                simp only [keyV, Bool.false_eq_true, if_false] at hlook
                have e3 := h1.b3.cell (k := 0) rfl
                have el3 := h1.b3.lt
                have e8 := h1.b8.cell (k := 0) rfl
                have el8 := h1.b8.lt
                have m0 := hbb.cell (k := 0) rfl
                have m1 := hbb.cell (k := 1) rfl
                have ml0 := hbb.lt
                by_cases hf : Tb.get ML' ((i : Int), (j : Int)) = some ((n + 1 : Nat) : Int)
                · obtain ⟨x', y', hk', -, -, -, hv'⟩ := HLF'.out.lab _ _ hf
                  simp only [Prod.mk.injEq, Int.natCast_inj] at hk'
                  obtain ⟨rfl, rfl⟩ := hk'
                  have hbef := HLB.out _ (mem_get hf)
                  simp only [befP, Bool.and_eq_true, decide_eq_true_eq] at hbef
                  have HIX := Lib.hid (show i < e1 ∧ j < e2 ∧ ch a i = ch b j ∧ lc a b i j = n from ⟨by omega, by omega, hch, by omega⟩)
                  have hzn : (z == ((n : Int) + 1)) = true := by rw [← hz, hf]; simp
                  clear hbef hv' hf hz hlab
                  gi_wp2
                  refine Mix.region_mixL_in (Mix.kinds [] [] []) (by kernel_rfl) (by kernel_rfl) (by kernel_rfl) ?_
                  repeat ((with_reducible refine Mix.atCons ?_); first | refine Mix.skipU (by rfl) rfl (by rfl) ?_ | (refine Mix.val rfl rfl (by rfl) (fun K hK => ?_); go_big_quiet_op; refine hK _ ?_; clear hK K) | (refine Mix.skip (by rfl) ?_; go_frame))
                  refine Mix.done (fun x0 => ?_)
                  have hos : os.length + 1 ≤ 1000000000000 := by have h9 := HPK.out.ln; have h8 := (Lcs.len_le a b).1; have h7 := HA.out; omega
                  have hC1 := h1.later x0
                  obtain ⟨v0, k0, k1', rfl⟩ := hC1.gat.own.form'
                  have g0 := hC1.gat.box.cell (k := 0) rfl
                  have gl := hC1.gat.box.lt
                  replace m0 := (x0.cell ml0).trans m0
                  replace m1 := (x0.cell ml0).trans m1
                  replace ml0 := Nat.lt_of_lt_of_le ml0 x0.size
                  have hA2 := hC1.later (Later.new x0.w (.cells #[.int .i64 (i : Int), .int .i64 (j : Int)] 103))
                  rw [Later.new_w] at hA2
                  obtain ⟨a6, n6, m6, w6, hr6, hl6, hG6, hB6, hK6, hO6⟩ := hA2.app x0.w.heap.size 1 (i, j) (by simp [go_sem]) (by simp [go_sem]) hos 100
                  have HR6 := Lib.hid hr6
                  have v1' := hl6.cell (k := 0) rfl
                  have v1f := hl6.frozen 0
                  have v1l := hl6.lt
                  have s0 := hG6.b7.cell (k := 0) rfl
                  have s1 := hG6.b7.cell (k := 1) rfl
                  have sf0 := hG6.b7.frozen 0
                  have sf1 := hG6.b7.frozen 1
                  have sl := hG6.b7.lt
                  have bm0 := hB6.size
                  have HG7 := Lib.hid (hG6.setE (i, j))
                  have HKF := Lib.hid (KeepsFrom.trans (KeepsFrom.of (B := U0.heap.size) (x0.step (Later.new x0.w (.cells #[.int .i64 (i : Int), .int .i64 (j : Int)] 103)))) (((hK6.trans (KeepsOthers.setCell _ ⟨c7, 0, none⟩ (.int .i64 (i : Int)))).trans (KeepsOthers.setCell _ ⟨c7, 1, none⟩ (.int .i64 (j : Int)))).from _))
                  have HSZ := Lib.hid (Nat.le_trans h5 HKF.out.size)
                  have hbx := hO6 ((hbb.later x0).later (Later.new x0.w _)) (fun e => by have := HVB.out _ e; omega) (lin_ne hbb h1.gat.box (by decide))
                  have bx0 := hbx.cell (k := 0) rfl
                  have bx1 := hbx.cell (k := 1) rfl
                  have bxl := hbx.lt
                  clear hbx hO6
                  clear hC1 hA2 hr6 hl6 hG6 hB6 hK6 hbb hlook h1 e3 el3 e8 el8
                  gi_wp2_with ((with_reducible show wpListIn _ _ _ _ _ (⟨some 65, _, _, _, _, _⟩ :: _) _ _); refine wpListIn_append_run rfl _ _ 100 rfl _ _ rfl rfl HR6.out ?_)
                  exact ⟨HKF.out, rfl, _, i, j, HG7.out, HIX, HSZ.out⟩
                · have hzn : (z == ((n : Int) + 1)) = false := by
                    rw [← hz]
                    cases hg : Tb.get ML' ((i : Int), (j : Int)) with
                    | none => simp; omega
                    | some w =>
                      rw [hg] at hf
                      simp only [Option.getD_some, beq_eq_false_iff_ne, ne_eq]
                      intro e
                      exact hf (by rw [e]; rfl)
                  have HPRE := Lib.hid (show ∀ x ∈ pre ++ [(⟨(i, j), hi, hj, hch⟩ : Mt a b)], Tb.get ML' (mtI x) ≠ some ((n + 1 : Nat) : Int) from fun x hx => by
                    rcases List.mem_append.1 hx with hx | hx
                    · exact h3.out x hx
                    · have : x = ⟨(i, j), hi, hj, hch⟩ := by simpa using hx
                      rw [this]; exact hf)
                  clear hf hz hlab
                  gi_wp2
                  refine Mix.region_mixL_in (Mix.kinds [] [] []) (by kernel_rfl) (by kernel_rfl) (by kernel_rfl) ?_
                  repeat ((with_reducible refine Mix.atCons ?_); first | refine Mix.skipU (by rfl) rfl (by rfl) ?_ | (refine Mix.val rfl rfl (by rfl) (fun K hK => ?_); go_big_quiet_op; refine hK _ ?_; clear hK K) | (refine Mix.skip (by rfl) ?_; go_frame))
                  refine Mix.done (fun x0 => ?_)
                  gi_wp2
                  exact ⟨KeepsFrom.of x0, KpM.of x0 h1.bel.size h2.lt, h1.later x0, h2.later x0, HPRE, Nat.le_trans h5 x0.size⟩
              case done =>
                rintro D ys U hD hys ⟨h1, h2, h3, h5⟩ hK
                exfalso
                obtain ⟨x, y, hx, hy, hc, hl⟩ := lc_top a b e1 e2 (by have h9 := HPK.out.at_; dsimp only at h9; omega)
                have hbx := HPK.out.bx
                dsimp only at hbx
                have h9 := HPK.out.at_
                dsimp only at h9
                have hm : ((x : Int), (y : Int)) ∈ matchL a b := matchL_mem.2 ⟨x, y, rfl, by omega, by omega, hc⟩
                rw [← hys] at hm
                obtain ⟨q, hq, he⟩ := List.mem_map.1 hm
                refine h3.out q hq ?_
                rw [he, HLF'.out.has x y hx hy (by omega) (by omega) hc]
                congr 1
                omega
              case stop =>
                rintro D c pre U hD _ ⟨rfl, v', i, j, h1, h3, h5⟩ hK
                have hDn : D ∉ Ds := fun hm => by have := HDU.out D hm; omega
                have hp1 := h1.push hK (Nat.le_trans hWU hD) hDn
                have n0 := hp1.b8.cell (k := 0) rfl
                have nl := hp1.b8.lt
                have HP2 := Lib.hid (HPK.out.step h3.out.1 h3.out.2.1 h3.out.2.2.1 h3.out.2.2.2)
                have HL2 := Lib.hid (HLF'.out.less (e' := (i, j)) (by have := h3.out.1; dsimp only; omega) (by have := h3.out.2.1; dsimp only; omega))
                have hp2 := hp1.later (Later.new U (.cells #[.int .i64 (n : Int)] 3))
                rw [Later.new_w] at hp2
                have hp3 := hp2.newN (c8' := U.heap.size) (Lin.new U 3 [.int .i64 (n : Int)]) hp1.bel.size
                have hn12 : n ≤ 12 := by have h9 := HPK.out.ln; have h8 := (Lcs.len_le a b).1; have h7 := HA.out; omega
                have HP3 := Lib.hid hp3
                clear hp1 hp2 hp3 h1 h3 h5 hK hDn
                refine (wpIn_wide (n := 6)).2 ?_
                dsimp only
                go_wp2
                exact ⟨n, Nat.lt_succ_self n, v', U.heap.size, ML', os ++ [(i, j)], i, j, D :: Ds, HP3.out, HP2, HL2, frame_ex _ _ _ rfl⟩
            · obtain ⟨⟨x, y⟩, vv⟩ := q
              simp only [keyV, numV] at hrun hent
              have hqM := HSUB.out _ hq
              have HLT := Lib.hid (leftS_lt hqM hqS)
              have hg0 : wr.grownBy (Tb.setMap (wr.drewN k) r o) (some r) := ⟨rfl, rfl, rfl, by rw [Tb.setMap_size]; exact Nat.le_refl _, fun j _ hne => Tb.setMap_other (fun e => hne (by rw [e]))⟩
              have hC2 := hC.kept hg0 (fun k e => by cases e; exact hr8)
              obtain ⟨X, hX⟩ : ∃ X, Tb.setMap (wr.drewN k) r o = X := ⟨_, rfl⟩
              rw [hX] at hrun hent hR2 hC2
              obtain ⟨B, hB⟩ : ∃ B, befP (x, y) ((e1 : Int), (e2 : Int)) = B := ⟨_, rfl⟩
              have HB2 := Lib.hid hB
              have E0 := hC2.b7.cell (k := 0) rfl
              have E1 := hC2.b7.cell (k := 1) rfl
              have El := hC2.b7.lt
              clear hX hg0 hC hR hB hqS hqM m0 ml0
              go_wp2_with fail
              clear hrun hent E0 E1 El
              refine (before_calls x y e1 e2 _).mono ?_
              rintro e w' ⟨rfl, yy, rfl⟩
              rw [HB2.out]
              obtain ⟨kb, hkb⟩ : ∃ c, c = X.heap.size := ⟨_, rfl⟩
              obtain ⟨X1, hX1⟩ : ∃ X1 : Later X, X1.w = yy.w := ⟨(Later.new X (.cells #[.int .i64 x, .int .i64 y] 103)).step yy, rfl⟩
              have hkl : Lin yy.w kb 103 [.int .i64 x, .int .i64 y] := by rw [hkb]; exact Lin.later (x := yy) (Lin.new X _ [_, _])
              have hC3 := hC2.later X1
              have hR3 := hR2.later X1
              rw [← hkb]
              rw [hX1] at hC3 hR3
              obtain ⟨X2, hX2⟩ : ∃ X2, X2 = yy.w := ⟨_, rfl⟩
              rw [← hX2] at hC3 hR3 hkl ⊢
              clear hX2 hX1 X1 hkb hC2 hR2 yy
              cases B
              · have m0 := hC3.b3.cell (k := 0) rfl
                have ml0 := hC3.b3.lt
                have k0 := hkl.cell (k := 0) rfl
                have k1 := hkl.cell (k := 1) rfl
                have kl := hkl.lt
                obtain ⟨o2, hrun2, hR4⟩ := hR3.drop match_keys Try.underlying112 (kt' := 103) (ty := 0) (x, y)
                simp only [keyV] at hrun2
                have HC4 := Lib.hid (hC3.map (grownBy_setMap (U := X2) (m := ml) o2) hR4.tab)
                have HR4 := Lib.hid hR4
                have HLF2 := Lib.hid (HLF'.out.del (k := (x, y)) HB2.out)
                have HSUB2 := Lib.hid (show ∀ p ∈ Tb.del ML' (x, y), p ∈ ML from fun p hp => HSUB.out p (List.mem_filter.1 hp).1)
                have HSEE2 := Lib.hid (show ∀ p ∈ Tb.del ML' (x, y), p.1 ∈ (x, y) :: S → befP p.1 ((e1 : Int), (e2 : Int)) = true from fun p hp hpS => by
                  obtain ⟨h1, h2⟩ := List.mem_filter.1 hp
                  have h3 : p.1 ≠ (x, y) := by simpa using h2
                  exact HSEE.out p h1 ((List.mem_cons.1 hpS).resolve_left h3))
                clear hC3 hR3 hR4 hkl
                go_wp2
                go_roundg (leftS ML ((x, y) :: S))
                case measure => exact HLT.out
                case rel => exact ⟨(x, y) :: S, _, rfl, HC4.out, HR4.out, HLF2, HSUB2, HSEE2⟩
              · have HSEE2 := Lib.hid (show ∀ p ∈ ML', p.1 ∈ (x, y) :: S → befP p.1 ((e1 : Int), (e2 : Int)) = true from fun p hp hpS => by
                  rcases List.mem_cons.1 hpS with h3 | h3
                  · rw [h3]; exact HB2.out
                  · exact HSEE.out p hp h3)
                clear hkl
                go_wp2
                go_roundg (leftS ML ((x, y) :: S))
                case measure => exact HLT.out
                case rel => exact ⟨(x, y) :: S, _, rfl, hC3, hR3, HLF', HSUB, HSEE2⟩
    · obtain ⟨⟨x, y⟩, v⟩ := q
      simp only [keyV, numV] at hrun hent
      have HLT := Lib.hid (leftS_lt hq hqS)
      have HC2 := Lib.hid (hC.out.step (p := ((x, y), v)) (get_mem HND.out hq))
      have hL3' : Lin (Tb.setMap (V.w.drewN k) r o) c3 112 [.map (some ml)] := (Tb.setMap_other (by omega)).trans hL3
      have hT' : Tb.Tab keyV numV (Tb.setMap (V.w.drewN k) r o) ml ML := hT.same (Tb.setMap_other (by omega))
      obtain ⟨V2, hV2⟩ : ∃ V2 : Later W, Tb.setMap (V.w.drewN k) r o = V2.w := ⟨⟨Tb.setMap (V.w.drewN k) r o, ⟨V.le.os, V.le.tape, V.le.output, by rw [Tb.setMap_size]; exact V.le.size, fun k hk => by rw [Tb.setMap_other (by omega)]; exact V.le.block k hk⟩⟩, rfl⟩
      rw [hV2] at hrun hent hR2 hL3' hT'
      clear hV2 hL3 hT hR hq hqS hC
      have e3 := hL3'.cell (k := 0) rfl
      have el := hL3'.lt
      have hTn := hT'.later (Later.new V2.w (.cells #[.int .i64 x, .int .i64 y] 103))
      have hRn := hR2.later (Later.new V2.w (.cells #[.int .i64 x, .int .i64 y] 103))
      have hLn := hL3'.later (Later.new V2.w (.cells #[.int .i64 x, .int .i64 y] 103))
      rw [Later.new_w] at hTn hRn hLn
      obtain ⟨o3, hrun3, hT3⟩ := hTn.store match_keys Try.underlying112 (x, y) v
      simp only [keyV, numV] at hrun3
      have hg3 := grownBy_setMap (U := V2.w.alloc (.cells #[.int .i64 x, .int .i64 y] 103)) (m := ml) o3
      have hne1 : mp ≠ ml := by omega
      have hne2 : r ≠ ml := by omega
      obtain ⟨Z, hZ⟩ : ∃ Z : Later W, Z.w = Tb.setMap (V2.w.alloc (.cells #[.int .i64 x, .int .i64 y] 103)) ml o3 := ⟨⟨_, (V2.step (Later.new _ _)).le.grown hg3 (V2.step (Later.new _ _)).size (fun k e => by cases e; exact hWl)⟩, rfl⟩
      have HL4 := Lib.hid (hLn.kept hg3 (fun e => hmlc (Option.some.inj e).symm))
      have HR4 := Lib.hid (hRn.same (Tb.setMap_other (o := o3) hne1) (Tb.setMap_other (o := o3) hne2))
      have HT4 := Lib.hid hT3
      rw [← hZ] at HL4 HR4 HT4
      have HZ := Lib.hid hZ
      clear hZ hTn hRn hLn hT3 hg3 hT' hR2 hL3'
      go_wp2
      rw [← HZ.out]
      go_roundg (leftS M ((x, y) :: S))
      case measure => exact HLT.out
      case rel => exact ⟨(x, y) :: S, _, Z, rfl, rfl, HL4.out, HT4.out, HC2, HR4.out⟩

end Go.Proofs.Ytpkgfkeekcgkcaa

/-  The program's Common. -/
namespace Go.Proofs.Ytpkgfkeekcgkcaa
open Go.RowKit
open Lcs (len CP)
/-- append(l[:len(l):len(l)], x): a new list, whatever there was -/
theorem app_cut {U : World} {a : Option Addr} {n c : Nat} {ps : List (Int × Int)} (h : Prs U (.slice a n c) ps) (b cc : Nat) (p q : Int) (h0 : U.cell? ⟨b, 0, none⟩ = some (.int .i64 p)) (h1 : U.cell? ⟨b, 1, none⟩ = some (.int .i64 q)) (hbig : ps.length + 1 ≤ 1000000000000) (ty : TypeId) :
    ∃ a' n' c', ∃ x : Later U, (Builtin.append_ #[44, 44] ty #[.slice a n n, .slice (some ⟨b, 0, none⟩) 1 cc]).run Try.prog U = .ok (.slice a' n' c') x.w ∧ Prs x.w (.slice a' n' c') (ps ++ [(p, q)]) := by
  obtain ⟨hl, ⟨rfl, a1, c1, e⟩ | ⟨b1, o1, c1, e, hc1, hb1, hg1⟩⟩ := h
  · obtain ⟨i, hi, hz, hsz, hby⟩ := info_pair
    have hn0 : n = 0 := by cases e; rfl
    subst hn0
    have key : ∀ v' w', (Builtin.append_ #[44, 44] ty #[.slice a 0 0, .slice (some ⟨b, 0, none⟩) 1 cc]).run Try.prog U = .ok v' w' → PrsM U.heap.size w' v' ([] ++ [(p, q)]) → U.grownBy w' none →
        ∃ a' n' c', ∃ x : Later U, (Builtin.append_ #[44, 44] ty #[.slice a 0 0, .slice (some ⟨b, 0, none⟩) 1 cc]).run Try.prog U = .ok (.slice a' n' c') x.w ∧ Prs x.w (.slice a' n' c') ([] ++ [(p, q)]) := fun v' w' hr hP hg => by
      obtain ⟨a', n', c', rfl⟩ := hP.form'
      exact ⟨a', n', c', ⟨w', (Below.refl _ U).grown hg (Nat.le_refl _) (fun k e => nomatch e)⟩, hr, hP.prs (by simp)⟩
    cases a with
    | none =>
      obtain ⟨v', w', hr, hP, hg, _⟩ := app_pair_at (U := U) (lo := U.heap.size) (PrsM.nil _ _) b cc p q h0 h1 (Nat.le_refl _) (by simp) ty
      exact key v' w' hr hP hg
    | some ad =>
      obtain ⟨v', w', hr, ho, hg⟩ := run_append_arg_grows (P := Try.prog) U 44 ty 78 i (.agg #[.int .i64 0, .int .i64 0]) 2 16 Try.underlying44 hi hz hsz hby rfl (by decide)
        ad 0 0 [] rfl (fun j u hj => by simp at hj) ⟨b, 0, none⟩ 1 cc (flatP [(p, q)]) (flatP_len _) (by
          intro j u hj
          obtain ⟨k, hk, (⟨rfl, rfl⟩ | ⟨rfl, rfl⟩)⟩ := flatP_at hj
          · obtain rfl : k = 0 := by simpa using hk
            rw [Addr.add_lit]; exact h0
          · obtain rfl : k = 0 := by simpa using hk
            rw [Addr.add_lit]; exact h1) (by omega) (by simp [maxLen]) (by omega)
      exact key v' w' hr ho hg
  · cases e
    obtain ⟨i, hi, hz, hsz, hby⟩ := info_pair
    obtain ⟨v', w', hr, ho, hg⟩ := run_append_arg_grows (P := Try.prog) U 44 ty 78 i (.agg #[.int .i64 0, .int .i64 0]) 2 16 Try.underlying44 hi hz hsz hby rfl (by decide)
      ⟨b1, o1, none⟩ ps.length ps.length (flatP ps) (flatP_len _) (fun j u hj => by
        obtain ⟨k, hk, (⟨rfl, rfl⟩ | ⟨rfl, rfl⟩)⟩ := flatP_at hj
        · rw [Addr.add_lit]; exact (hg1 k hk).1
        · rw [Addr.add_lit, ← Nat.add_assoc]; exact (hg1 k hk).2) ⟨b, 0, none⟩ 1 cc (flatP [(p, q)]) (flatP_len _) (by
        intro j u hj
        obtain ⟨k, hk, (⟨rfl, rfl⟩ | ⟨rfl, rfl⟩)⟩ := flatP_at hj
        · obtain rfl : k = 0 := by simpa using hk
          rw [Addr.add_lit]; exact h0
        · obtain rfl : k = 0 := by simpa using hk
          rw [Addr.add_lit]; exact h1) (by omega) (by simp only [maxLen]; omega) (by omega)
    rw [← flatP_app] at ho
    have hP : PrsM U.heap.size w' v' (ps ++ [(p, q)]) := by
      unfold PrsM
      rw [List.length_append]
      exact ho
    obtain ⟨a', n', c', rfl⟩ := hP.form'
    exact ⟨a', n', c', ⟨w', (Below.refl _ U).grown hg (Nat.le_refl _) (fun k e => nomatch e)⟩, hr, hP.prs (by rw [List.length_append]; simp; omega)⟩
/-- a common part, or the error -/
def ComE (a b : List UInt8) (W : World) (e : Ending) (w' : World) : Prop := ∃ (v : Value) (ps : List (Nat × Nat)) (x : Later W), e = .returned (.tuple #[v, .int .i64 (txtsE a b)]) ∧ w' = x.w ∧ Prs x.w v (ps.map natP) ∧ (txtsE a b = 0 → CP a b ps ∧ ps.length = len a b) ∧ (txtsE a b ≠ 0 → ps = [])
set_option maxRecDepth 100000 in
set_option maxHeartbeats 4000000 in
theorem Common_calls (a b : List UInt8) (W : World) : Calls Try.prog 38 #[.string ⟨a.toArray⟩, .string ⟨b.toArray⟩] W (ComE a b W) := by
  have S : Ins W [] := Ins.nil _
  by_cases h : txtsE a b = 0
  rotate_left
  · obtain ⟨E, hE⟩ : ∃ E, txtsE a b = E := ⟨_, rfl⟩
    have HX := Lib.hid (compare_err a b W h)
    have HNE := Lib.hid h
    rw [hE] at h HX
    have hne : (E != 0) = true := by simpa using h
    have HEE := Lib.hid hE
    clear h hE
    go_enter Try.func38, Try.ntmps38
    go_wp2_with fail
    refine HX.out.mono ?_
    rintro e w' ⟨rfl, hw⟩
    rw [hw]
    clear hw w'
    go_wp2
    go_ret2
    exact ⟨.slice none 0 0, [], Later.self _, by rw [HEE.out]; rfl, rfl, Prs.nil _ _, fun e => absurd e HNE.out, fun _ => rfl⟩
  have hok := txts_ok h
  have HH := Lib.hid h
  have HOK := Lib.hid hok
  have hl12 : len a b ≤ 12 := Nat.le_trans (Lcs.len_le a b).1 hok.1
  obtain ⟨L, hL⟩ : ∃ L, len a b = L := ⟨_, rfl⟩
  rw [hL] at hl12
  have HL := Lib.hid hL
  clear h hok hL
  go_enter Try.func38, Try.ntmps38
  go_wp2_with fail
  refine (compare_ok a b _ HH.out).mono ?_
  rintro e w' ⟨p, mp, M, x, rfl, rfl, hP, hM⟩
  go_wp2_with fail
  refine (common_calls p mp _ a b M HOK.out.1 HOK.out.2 _ hP hM).mono ?_
  rintro e w' ⟨v, ps, y, rfl, rfl, hv, hcp, hln⟩
  rw [HL.out] at hln
  have hpv := hv.prs (by rw [List.length_map]; omega)
  obtain ⟨av, nv, cv, rfl⟩ := hv.form'
  have hnv : nv = L := by obtain ⟨a, c, e⟩ := hpv.form; cases e; rw [List.length_map, hln]
  subst hnv
  have HCP := Lib.hid hcp
  have HLN := Lib.hid hln
  clear hP hM hv hcp hln
  go_wp2
  obtain ⟨Y, hY⟩ : ∃ Y : Later W, Y.w = y.w := ⟨x.step y, rfl⟩
  rw [← hY] at hpv ⊢
  clear hY y x
  go_loopw [8, 10, 23] (fun ov _ i0 wr => ∃ (k : Nat) (V : Later Y.w), wr = V.w ∧ k ≤ nv ∧ i0 = .int .i64 k ∧ Prs V.w ov ((ps.take k).map natP)) (fun _ _ i0 _ => nv - (intOf i0).toNat)
  case atStart => exact ⟨0, Later.self _, rfl, Nat.zero_le _, rfl, Prs.nil _ _⟩
  obtain ⟨k, V, rfl, hk, rfl, ho⟩ := hrel
  have hol : ((ps.take k).map natP).length = k := by rw [List.length_map, List.length_take, HLN.out]; omega
  obtain ⟨ao, no, co, rfl⟩ : ∃ a n c, _ = Value.slice a n c := by obtain ⟨a, c, e⟩ := ho.form; exact ⟨a, _, c, e⟩
  have hno : k = no := by obtain ⟨a, c, e⟩ := ho.form; cases e; exact hol.symm
  subst hno
  by_cases hlt : k < nv
  · obtain ⟨b1, o1, k1, e, hk1, hb1, hg1⟩ := (hpv.later V).at (k := k) (by rw [List.length_map, HLN.out]; exact hlt)
    injection e with e1 e2 e3
    subst e1 e3
    clear e2
    obtain ⟨p1, p2⟩ := hg1 k (by rw [List.length_map, HLN.out]; exact hlt)
    have hpk : pr (ps.map natP) k = natP (ps.getD k (0, 0)) := by rw [pr_eq (by rw [List.length_map, HLN.out]; exact hlt), List.getElem_map]; simp [HLN.out, hlt]
    rw [hpk] at p1 p2
    obtain ⟨⟨i, j⟩, hij⟩ : ∃ q, ps.getD k (0, 0) = q := ⟨_, rfl⟩
    rw [hij] at p1 p2
    simp only [natP] at p1 p2
    have HTK := Lib.hid (show (ps.take (k + 1)).map natP = (ps.take k).map natP ++ [((i : Int), (j : Int))] by
      have hk9 : k < ps.length := by rw [HLN.out]; exact hlt
      rw [List.take_succ_eq_append_getElem hk9, List.map_append]
      have : ps[k] = (i, j) := by rw [← hij]; simp [hk9]
      rw [this]; rfl)
    clear hg1 hpk hij
    have hcap : k ≤ co := by
      obtain ⟨_, ⟨e, a1, c1, e1⟩ | ⟨_, _, _, e1, hc, _⟩⟩ := ho
      · have h9 : k = 0 := by rw [← hol, e]; rfl
        omega
      · injection e1 with e2 e3 e4
        omega
    go_wp2
    obtain ⟨tb, htb⟩ : ∃ b, b = V.w.heap.size := ⟨_, rfl⟩
    obtain ⟨Z, hZ⟩ : ∃ Z : Later V.w, Z.w = V.w.alloc (.cells #[.int .i64 (i : Int), .int .i64 (j : Int)] 103) := ⟨Later.new _ _, rfl⟩
    have lZ : Lin Z.w tb 103 [.int .i64 (i : Int), .int .i64 (j : Int)] := by rw [hZ, htb]; exact Lin.new _ _ [_, _]
    have ho2 := ho.later Z
    rw [← hZ, ← htb]
    have t0 := lZ.cell (k := 0) rfl
    have t1' := lZ.cell (k := 1) rfl
    have tl := lZ.lt
    clear hZ htb lZ ho p1 p2
    refine Mix.region_mixL (Mix.kinds [11] [12] []) (by kernel_rfl) (by kernel_rfl) ?_
    repeat ((with_reducible refine Mix.atCons ?_); first | refine Mix.skipU (by rfl) rfl (by rfl) ?_ | (refine Mix.val rfl rfl (by rfl) (fun K hK => ?_); go_big_quiet_op; refine hK _ ?_; clear hK K) | (refine Mix.skip (by rfl) ?_; go_frame))
    refine Mix.new rfl (by rfl) (fun b => .slice (some ⟨b, 0, none⟩) 1 1) (.cells #[.int .i64 (i : Int), .int .i64 (j : Int)] 78) (fun w => by simp [go_sem]) (fun E0 x1 hE0 hx1 => ?_)
    try go_frame
    repeat ((with_reducible refine Mix.atCons ?_); first | refine Mix.skipU (by rfl) rfl (by rfl) ?_ | (refine Mix.val rfl rfl (by rfl) (fun K hK => ?_); go_big_quiet_op; refine hK _ ?_; clear hK K) | (refine Mix.skip (by rfl) ?_; go_frame))
    refine Mix.loud rfl (by rfl) (fun x2 K hK => ?_)
    obtain ⟨a6, n6, c6, x6, hr6, hP6⟩ := app_cut ((ho2.later x1).later x2) E0 1 (i : Int) (j : Int) (by
      rw [x2.cell (Array.getElem?_eq_some_iff.1 hx1).1]
      simp [World.cell?, hx1]) (by
      rw [x2.cell (Array.getElem?_eq_some_iff.1 hx1).1]
      simp [World.cell?, hx1]) (by rw [hol]; omega) 44
    refine Lib.wp_append_run_sl _ _ _ 44 rfl _ _ rfl rfl hr6 ?_
    refine hK _ x6 ?_
    clear hK K hr6 hx1 hE0 ho2
    try go_frame
    repeat ((with_reducible refine Mix.atCons ?_); first | refine Mix.skipU (by rfl) rfl (by rfl) ?_ | (refine Mix.val rfl rfl (by rfl) (fun K hK => ?_); go_big_quiet_op; refine hK _ ?_; clear hK K) | (refine Mix.skip (by rfl) ?_; go_frame))
    refine Mix.done (fun x7 => ?_)
    have HP7 := Lib.hid (hP6.later x7)
    obtain ⟨V2, hV2⟩ : ∃ V2 : Later Y.w, V2.w = x7.w := ⟨((((V.step Z).step x1).step x2).step x6).step x7, rfl⟩
    rw [← hV2] at HP7 ⊢
    clear hV2 hP6
    go_wp2
    go_roundw
    case rel => first | exact ⟨k + 1, V2, rfl, by omega, by go_num, by rw [HTK.out]; exact HP7.out⟩ | ((repeat apply Exists.intro); exact ⟨⟨k + 1, V2, rfl, by omega, by go_num, by rw [HTK.out]; exact HP7.out⟩, rfl⟩)
    case measure => simp [intOf] <;> omega
  obtain rfl : nv = k := by omega
  rw [List.take_of_length_le (by rw [HLN.out]; exact Nat.le_refl _)] at ho
  go_wp2
  go_ret2
  exact ⟨_, ps, Y.step V, by rw [HH.out]; rfl, rfl, ho, fun _ => ⟨HCP.out, by rw [HL.out]; exact HLN.out⟩, fun e => absurd HH.out e⟩
end Go.Proofs.Ytpkgfkeekcgkcaa
