import Derived.Test.YtieaibebnkdmhaaLaw4
import Derived.Test.YtieaibebnkdmhaaTh9
import Derived.Test.YtieaibebnkdmhaaOwnS
import Derived.Test.YtieaibebnkdmhaaWorks
import Derived.IntWalk
namespace Go.Proofs.Ytieaibebnkdmhaa
open Go.RowKit
/- A region that draws its order, from its middle on, in an order of one's own. -/
namespace Mix
section
variable {P : Program} {ops : Array Oper} {W0 : World} {cls : Nat → Cls} {Q : Act → World → Prop} {i : Nat} {rest : List Nat} {a : Act} {w : World}

theorem gcons (o : Oper) (ho : ops[i]? = some o)
    (h : (Region.wanted o (yielded ops a.tmps) = true ∧ cls i = .loud ∧ ∀ x : Later w, o.wp P a x.w (fun a' w' => (∃ y : Later x.w, w' = y.w) ∧ Good P ops W0 cls Q rest a' w') F3) ∨
      ((Region.wanted o (yielded ops a.tmps) = true → cls i = .val) ∧ ∃ v, YieldsIf P ops (C0 W0) o v a ∧ Good P ops W0 cls Q rest (a.put o.dst v) w) ∨
      (Region.wanted o (yielded ops a.tmps) = true ∧ cls i = .new ∧ ∃ mk ob, AllocAs P o a mk ob ∧
        ∀ (b : Nat) (x : Later w), W0.heap.size ≤ b → x.w.heap[b]? = some ob → Good P ops W0 cls Q rest (a.put o.dst (mk b)) x.w) ∨
      (Region.wanted o (yielded ops a.tmps) = true ∧ cls i = .last ∧ (∀ j ∈ rest, cls j = .last) ∧ ∀ x : Later w, o.wp P a x.w (fun a' w' => Good P ops W0 cls Q rest a' w') F3)) : Good P ops W0 cls Q (i :: rest) a w := fun o' ho' => by
  cases Option.some.inj (ho.symm.trans ho')
  exact h
theorem gloud (o : Oper) (ho : ops[i]? = some o) (hc : cls i = .loud) (hw : Region.wanted o (yielded ops a.tmps) = true)
    (h : ∀ (x : Later w) (K : Act → World → Prop), (∀ (a' : Act) (y : Later x.w), Good P ops W0 cls Q rest a' y.w → K a' y.w) → o.wp P a x.w K F3) : Good P ops W0 cls Q (i :: rest) a w :=
  gcons o ho (.inl ⟨hw, hc, fun x => h x _ (fun _ y hg => ⟨⟨y, rfl⟩, hg⟩)⟩)
theorem gnew (o : Oper) (ho : ops[i]? = some o) (hc : cls i = .new) (hw : Region.wanted o (yielded ops a.tmps) = true) (mk : Nat → Value) (ob : Obj) (hal : AllocAs P o a mk ob)
    (h : ∀ (b : Nat) (x : Later w), W0.heap.size ≤ b → x.w.heap[b]? = some ob → Good P ops W0 cls Q rest (a.put o.dst (mk b)) x.w) : Good P ops W0 cls Q (i :: rest) a w :=
  gcons o ho (.inr (.inr (.inl ⟨hw, hc, mk, ob, hal, h⟩)))
theorem glast (o : Oper) (ho : ops[i]? = some o) (hc : cls i = .last) (hw : Region.wanted o (yielded ops a.tmps) = true) (hr : ∀ j ∈ rest, cls j = .last)
    (h : ∀ (x : Later w) (K : Act → World → Prop), (∀ (a' : Act) (w' : World), Good P ops W0 cls Q rest a' w' → K a' w') → o.wp P a x.w K F3) : Good P ops W0 cls Q (i :: rest) a w :=
  gcons o ho (.inr (.inr (.inr ⟨hw, hc, hr, fun x => h x _ (fun _ _ hg => hg)⟩)))
theorem gdone (h : ∀ x : Later w, Q a x.w) : Good P ops W0 cls Q [] a w := h

def restB (ops : Array Oper) (listed : Array Bool) (rem : List Nat) (cls : Nat → Cls) (n : Nat) : Bool :=
  Region.noSelect ops && edgesB ops && certB ops (Region.before ops) && pairsB (sepB ops (Region.before ops) cls) rem && (listed.size == ops.size) && (rem.length == n) &&
    (List.range ops.size).all (fun i => rem.contains i == !listed.getD i true) && rem.all (fun i => decide (i < ops.size)) &&
    (List.range ops.size).all (fun j => !listed.getD j true || match ops[j]? with
      | some o => o.after.all fun e => !Region.binds .any e || listed.getD e.on true
      | none => true)
theorem any_rest {Q' : Exit → Act → World → Prop} {listed : Array Bool} {rem : List Nat} {n : Nat} (hB : restB ops listed rem cls n = true) (hw : C0 W0 w) (h : Good P ops W0 cls (fun a w => Q' .normal a w) rem a w) : wpAny P .any ops Q' n listed a w := by
  simp only [restB, Bool.and_eq_true] at hB
  obtain ⟨⟨⟨⟨⟨⟨⟨⟨hs, hE⟩, hC⟩, hp⟩, hsz⟩, hn⟩, hm⟩, ho⟩, hd⟩ := hB
  refine any_of_good hs hE hC n rem listed a w (by simpa using hn) (fun _ => hw) (by simpa using hsz) (pairsB_spec hp) (fun i => ?_) (fun j o hj hl e he hb => ?_) h
  · rw [List.all_eq_true] at hm ho
    constructor
    · intro hi
      have hlt := of_decide_eq_true (ho i hi)
      have := hm i (List.mem_range.2 hlt)
      rw [List.contains_iff_mem.2 hi] at this
      exact ⟨hlt, by simpa using this⟩
    · rintro ⟨hlt, hl⟩
      have := hm i (List.mem_range.2 hlt)
      rw [hl] at this
      simpa using this
  · rw [List.all_eq_true] at hd
    have := hd j (List.mem_range.2 (Array.getElem?_eq_some_iff.1 hj).1)
    rw [hl, hj] at this
    simp only [Bool.not_true, Bool.false_or] at this
    have := Array.all_eq_true'.1 this e he
    rw [hb] at this
    simpa using this
end
end Mix

theorem row6 {ns ss : List (List Int)} (hv : vbook ns ss = 0) {k : Nat} (hk : k < ss.length) : (row ss k).length ≤ 6 := by
  have hb := vbook_valid hv
  have := SM.nodup_len (l2 := (List.range ns.length).map fun (s : Nat) => (s : Int)) (hb.2.2.2.2.2.1 _ (row_mem hk)) (fun y hy => by
    have := hb.2.2.2.2.2.2.2 _ (row_mem hk) y hy
    exact List.mem_map.2 ⟨y.toNat, List.mem_range.2 (by omega), by omega⟩)
  simp at this
  omega
theorem run_to (w : World) (ar : Option Addr) (n c K : Nat) (hK : K ≤ c) : (Instr.sliceAt 25 (.slice ar n c) none (some (.int .i64 K)) none).run Try.prog w = .ok (.slice ar K c) w := by simp [go_sem, hK]
theorem run_from {w0 : World} {ar : Option Addr} {c K : Nat} {xs : List Int} (h : Ints w0 (.slice ar xs.length c) xs) (hK : K ≤ xs.length) :
    ∃ base, (∀ w : World, (Instr.sliceAt 25 (.slice ar xs.length c) (some (.int .i64 K)) none none).run Try.prog w = .ok (.slice base (xs.length - K) (c - K)) w) ∧ Ints w0 (.slice base (xs.length - K) (c - K)) (xs.drop K) := by
  cases ar with
  | none =>
    obtain ⟨_, ⟨rfl, _⟩ | ⟨b, off, cap, e, _⟩⟩ := h
    · obtain rfl : K = 0 := by simpa using hK
      exact ⟨none, fun w => by simp [go_sem], by simp; exact Ints.nil _ _⟩
    · cases e
  | some b =>
    refine ⟨if c = K then some b else some (b.add K), fun w => by simp [go_sem, hK], ?_⟩
    obtain ⟨b, off, spot⟩ := b
    cases spot with
    | none => rw [Addr.add_lit]; exact h.fromS hK
    | some s =>
      obtain ⟨_, ⟨rfl, _⟩ | ⟨b, off, cap, e, _⟩⟩ := h
      · simp; exact Ints.nil _ _
      · cases e
theorem exec_to {ar : Option Addr} {n c K : Nat} {o : Oper} {a : Act} {x y : Operand} (ho : o.op = .slice 25 x none (some y) none) (hx : a.eval x = .slice ar n c) (hy : a.eval y = .int .i64 K) (hK : K ≤ c) (w : World) : (execOp a.eval o).run Try.prog w = .ok (.value (.slice ar K c)) w := by
  have h := run_to w ar n c K hK
  simp only [execOp, ho, Sem.run_bind, Option.map_some, Option.map_none, hx, hy, h, Result.andThen_ok, Sem.run_pure]
theorem exec_from {ar base : Option Addr} {n c K m d : Nat} {o : Oper} {a : Act} {x y : Operand} (ho : o.op = .slice 25 x (some y) none none) (hx : a.eval x = .slice ar n c) (hy : a.eval y = .int .i64 K) (w : World)
    (h : (Instr.sliceAt 25 (.slice ar n c) (some (.int .i64 K)) none none).run Try.prog w = .ok (.slice base m d) w) : (execOp a.eval o).run Try.prog w = .ok (.value (.slice base m d)) w := by
  simp only [execOp, ho, Sem.run_bind, Option.map_some, Option.map_none, hx, hy, h, Result.andThen_ok, Sem.run_pure]
set_option maxRecDepth 100000 in
set_option maxHeartbeats 4000000 in
theorem LMore_calls (nv sv : Value) (ns ss : List (List Int)) (lv av : Value) (ls ats : List Int) (w : World) (hn : Rows2 w nv ns) (hs : Rows2 w sv ss) (hb : Byts w lv ls) (hd : Byts w av ats) :
    Calls Try.prog 13 #[.agg #[nv, sv], lv, av] w (Gives (.bool true) w) := by
  have hnl := hn.1
  have hsl := hs.1
  obtain ⟨an, cn, rfl⟩ := hn.form
  obtain ⟨aS, cS, rfl⟩ := hs.form
  have lhb := hb.1
  obtain ⟨ahb, chb, rfl⟩ := hb.form
  have lhd := hd.1
  obtain ⟨ahd, chd, rfl⟩ := hd.form
  by_cases hv : vbook ns ss = 0
  rotate_left
  · have hvb : (vbook ns ss == 0) = false := by simpa using hv
    clear hv
    go_enter Try.func13, Try.ntmps13
    go_wp2_with fail
    obtain ⟨B, hB⟩ : ∃ B, B = w.heap.size := ⟨_, rfl⟩
    obtain ⟨z, hz⟩ : ∃ z : Later w, z.w = w.alloc (.cells #[.slice an ns.length cn, .slice aS ss.length cS] 24) := ⟨Later.new _ _, rfl⟩
    have c0 : z.w.cell? ⟨B, 0, none⟩ = some (.slice an ns.length cn) := by rw [hz, hB]; simp [go_sem]
    have c1 : z.w.cell? ⟨B, 1, none⟩ = some (.slice aS ss.length cS) := by rw [hz, hB]; simp [go_sem]
    have hBz : B < z.w.heap.size := by rw [hz, hB]; simp [go_sem]
    have HZ : Hid (z.w.heap.size = B + 1) := Lib.hid (by rw [hz, hB]; simp)
    rw [← hz, ← hB]
    replace hn := hn.later z
    replace hs := hs.later z
    replace hb := hb.later z
    replace hd := hd.later z
    clear hz hB
    refine (fine_calls _ _ ns ss _ hn hs).mono ?_
    rintro e w' ⟨rfl, x, rfl⟩
    rw [hvb]
    go_wp2_with fail
    refine (Works_calls x.w).mono ?_
    rintro e w' ⟨rfl, y, rfl⟩
    go_wp2
    go_ret
    exact ⟨rfl, (z.step x).step y, rfl⟩
  have hvb : (vbook ns ss == 0) = true := by rw [hv]; rfl
  have HV := Lib.hid hv
  clear hv
  by_cases hg1 : 6 ≤ ns.length
  · go_enter Try.func13, Try.ntmps13
    go_wp2_with fail
    obtain ⟨B, hB⟩ : ∃ B, B = w.heap.size := ⟨_, rfl⟩
    obtain ⟨z, hz⟩ : ∃ z : Later w, z.w = w.alloc (.cells #[.slice an ns.length cn, .slice aS ss.length cS] 24) := ⟨Later.new _ _, rfl⟩
    have c0 : z.w.cell? ⟨B, 0, none⟩ = some (.slice an ns.length cn) := by rw [hz, hB]; simp [go_sem]
    have c1 : z.w.cell? ⟨B, 1, none⟩ = some (.slice aS ss.length cS) := by rw [hz, hB]; simp [go_sem]
    have hBz : B < z.w.heap.size := by rw [hz, hB]; simp [go_sem]
    have HZ : Hid (z.w.heap.size = B + 1) := Lib.hid (by rw [hz, hB]; simp)
    rw [← hz, ← hB]
    replace hn := hn.later z
    replace hs := hs.later z
    replace hb := hb.later z
    replace hd := hd.later z
    clear hz hB
    refine (fine_calls _ _ ns ss _ hn hs).mono ?_
    rintro e w' ⟨rfl, x, rfl⟩
    rw [hvb]
    go_wp2_with fail
    refine (Works_calls x.w).mono ?_
    rintro e w' ⟨rfl, y, rfl⟩
    go_wp2
    go_ret
    exact ⟨rfl, (z.step x).step y, rfl⟩
  by_cases hg2 : 20 < ls.length
  · go_enter Try.func13, Try.ntmps13
    go_wp2_with fail
    obtain ⟨B, hB⟩ : ∃ B, B = w.heap.size := ⟨_, rfl⟩
    obtain ⟨z, hz⟩ : ∃ z : Later w, z.w = w.alloc (.cells #[.slice an ns.length cn, .slice aS ss.length cS] 24) := ⟨Later.new _ _, rfl⟩
    have c0 : z.w.cell? ⟨B, 0, none⟩ = some (.slice an ns.length cn) := by rw [hz, hB]; simp [go_sem]
    have c1 : z.w.cell? ⟨B, 1, none⟩ = some (.slice aS ss.length cS) := by rw [hz, hB]; simp [go_sem]
    have hBz : B < z.w.heap.size := by rw [hz, hB]; simp [go_sem]
    have HZ : Hid (z.w.heap.size = B + 1) := Lib.hid (by rw [hz, hB]; simp)
    rw [← hz, ← hB]
    replace hn := hn.later z
    replace hs := hs.later z
    replace hb := hb.later z
    replace hd := hd.later z
    clear hz hB
    refine (fine_calls _ _ ns ss _ hn hs).mono ?_
    rintro e w' ⟨rfl, x, rfl⟩
    rw [hvb]
    go_wp2_with fail
    refine (Works_calls x.w).mono ?_
    rintro e w' ⟨rfl, y, rfl⟩
    go_wp2
    go_ret
    exact ⟨rfl, (z.step x).step y, rfl⟩
  by_cases hg3 : 20 < ats.length
  · go_enter Try.func13, Try.ntmps13
    go_wp2_with fail
    obtain ⟨B, hB⟩ : ∃ B, B = w.heap.size := ⟨_, rfl⟩
    obtain ⟨z, hz⟩ : ∃ z : Later w, z.w = w.alloc (.cells #[.slice an ns.length cn, .slice aS ss.length cS] 24) := ⟨Later.new _ _, rfl⟩
    have c0 : z.w.cell? ⟨B, 0, none⟩ = some (.slice an ns.length cn) := by rw [hz, hB]; simp [go_sem]
    have c1 : z.w.cell? ⟨B, 1, none⟩ = some (.slice aS ss.length cS) := by rw [hz, hB]; simp [go_sem]
    have hBz : B < z.w.heap.size := by rw [hz, hB]; simp [go_sem]
    have HZ : Hid (z.w.heap.size = B + 1) := Lib.hid (by rw [hz, hB]; simp)
    rw [← hz, ← hB]
    replace hn := hn.later z
    replace hs := hs.later z
    replace hb := hb.later z
    replace hd := hd.later z
    clear hz hB
    refine (fine_calls _ _ ns ss _ hn hs).mono ?_
    rintro e w' ⟨rfl, x, rfl⟩
    rw [hvb]
    go_wp2_with fail
    refine (Works_calls x.w).mono ?_
    rintro e w' ⟨rfl, y, rfl⟩
    go_wp2
    go_ret
    exact ⟨rfl, (z.step x).step y, rfl⟩
  go_enter Try.func13, Try.ntmps13
  go_wp2_with fail
  obtain ⟨B, hB⟩ : ∃ B, B = w.heap.size := ⟨_, rfl⟩
  obtain ⟨z, hz⟩ : ∃ z : Later w, z.w = w.alloc (.cells #[.slice an ns.length cn, .slice aS ss.length cS] 24) := ⟨Later.new _ _, rfl⟩
  have c0 : z.w.cell? ⟨B, 0, none⟩ = some (.slice an ns.length cn) := by rw [hz, hB]; simp [go_sem]
  have c1 : z.w.cell? ⟨B, 1, none⟩ = some (.slice aS ss.length cS) := by rw [hz, hB]; simp [go_sem]
  have hBz : B < z.w.heap.size := by rw [hz, hB]; simp [go_sem]
  have HZ : Hid (z.w.heap.size = B + 1) := Lib.hid (by rw [hz, hB]; simp)
  rw [← hz, ← hB]
  replace hn := hn.later z
  replace hs := hs.later z
  replace hb := hb.later z
  replace hd := hd.later z
  clear hz hB
  refine (fine_calls _ _ ns ss _ hn hs).mono ?_
  rintro e w' ⟨rfl, x, rfl⟩
  rw [hvb]
  clear hvb
  
  have hv0 := vbook_valid HV.out
  have h6 : ns.length < 6 := by omega
  have hS0 : 0 < ss.length := hv0.2.2.1
  have hS6 : ss.length ≤ 6 := hv0.2.2.2.1
  clear hv0
  have gB0 : x.w.cell? ⟨B, 0, none⟩ = some (.slice an ns.length cn) := ((x).cell hBz).trans c0
  have gB1 : x.w.cell? ⟨B, 1, none⟩ = some (.slice aS ss.length cS) := ((x).cell hBz).trans c1
  have sB : B < x.w.heap.size := Nat.lt_of_lt_of_le hBz (x).size
  have hE0 : (Later.new x.w (.cells #[] 25)).w.ownsRow x.w.heap.size 25 1 (.slice (some ⟨x.w.heap.size, 0, none⟩) 0 0) 0 [] := ⟨rfl, .inr ⟨x.w.heap.size, 0, #[], rfl, Nat.le_refl _, World.alloc_heap_new _ _, Nat.le_refl _, by simp [maxLen], rfl, rfl⟩⟩
  obtain ⟨aN, nN, cN, q, hrun, hR⟩ := app_rows_empty (x.step (Later.new x.w (.cells #[] 25))) (lx := z.w.heap.size) (lo := x.w.heap.size) (Nat.le_refl _) x.size hE0 hn (by have := (vbook_valid HV.out).1; omega) (by simp [Later.step_w, Later.new_w]) (by omega) 22
  simp only [Later.step_w, Later.new_w] at hrun
  have HR := Lib.hid hrun
  clear hrun hE0
  go_wp2_with ((with_reducible show wpList _ _ _ (⟨some 47, _, _, _, _, _⟩ :: _) _ _); refine Lib.wpList_append_run_sl _ rfl _ _ 22 rfl _ _ rfl rfl HR.out ?_)
  obtain ⟨V, hV⟩ : ∃ V : Later z.w, V.w = q.w.alloc (.cells #[.slice aN nN cN, .slice none 0 0] 24) := ⟨((x.step (Later.new x.w (.cells #[] 25))).step q).step (Later.new _ _), rfl⟩
  have hbx : BoxB V.w q.w.heap.size (.slice aN nN cN) (.slice none 0 0) := by rw [hV]; exact BoxB.new _ _ _
  have hRV : Rows3 z.w.heap.size x.w.heap.size V.w (.slice aN nN cN) ns := by rw [hV]; exact hR.later (Later.new _ _)
  have hxq : x.w.heap.size ≤ q.w.heap.size := Nat.le_trans (Later.new x.w (.cells #[] 25)).size q.size
  rw [← hV]
  clear hV HR gB0 gB1 sB hR
  go_loopw [9, 10] (fun st i wr => ∃ k : Nat, ∃ acc : List Int, ∃ y : Later V.w, wr = y.w ∧ k ≤ ls.length ∧ i = .int .i64 k ∧ IntsN V.w.heap.size y.w st acc ∧ acc.length ≤ k ∧ Hid (starsF ss.length ls [] = starsF ss.length (ls.drop k) acc)) (fun _ i _ => ls.length - (intOf i).toNat)
  case atStart => exact ⟨0, [], Later.self _, rfl, Nat.zero_le _, rfl, IntsN.nil _ _, Nat.zero_le _, rfl⟩
  case round =>
    obtain ⟨k, acc, y, rfl, hk, rfl, hM, hak, hst⟩ := hrel
    rename_i sv
    obtain ⟨am, nm, cm, rfl⟩ := hM.form'
    have gB0 : y.w.cell? ⟨B, 0, none⟩ = some (.slice an ns.length cn) := ((V.step y).cell hBz).trans c0
    have gB1 : y.w.cell? ⟨B, 1, none⟩ = some (.slice aS ss.length cS) := ((V.step y).cell hBz).trans c1
    have sB : B < y.w.heap.size := Nat.lt_of_lt_of_le hBz (V.step y).size
    by_cases hkl : k < ls.length
    · obtain ⟨bl, ol, cl', e, hcl, hbl, hgl⟩ := (hb.later V).at hkl
      cases e
      have gl := (y.cell hbl).trans (hgl k hkl)
      have sl : bl < y.w.heap.size := Nat.lt_of_lt_of_le hbl y.size
      have hx := hb.2.1 k hkl
      have e2 : IntKind.i64.wrap (nth ls k) = nth ls k := IntWalk.i64_in _ (by omega)
      have k0 := Int.emod_nonneg (nth ls k) (show (ss.length : Int) ≠ 0 by omega)
      have k1 := Int.emod_lt_of_pos (nth ls k) (show (0 : Int) < ss.length by omega)
      have hd := starsF_drop (ss.length : Int) ls acc k hkl
      obtain ⟨s, hS⟩ : ∃ s, nth ls k % (ss.length : Int) = s := ⟨_, rfl⟩
      rw [hS] at k0 k1 hd
      clear hgl
      go_wp2
      refine region_later_lit (by kernel_rfl) (by kernel_rfl) ?_
      repeat (first | go_big_quiet_step (first
           | (fail)))
      refine wpQuiet_nil ?_
      intro u
      have hPl := Place_calls _ acc s u.w ((hM.ints (by omega)).later u)
      cases hcd : decide (plc acc s < 0)
      · have hd2 := Lib.hid (show starsF ss.length ls [] = starsF ss.length (ls.drop (k + 1)) acc by rw [hst.out, hd, if_neg (by simpa using hcd)])
        go_wp2_with fail
        refine hPl.mono ?_
        rintro e w' ⟨rfl, rfl⟩
        go_wp2
        go_roundw
        case rel => exact ⟨k + 1, acc, y.step u, rfl, by omega, by go_num, hM.later u, by omega, hd2⟩
        case measure => simp [intOf]; omega
      · have hd2 := Lib.hid (show starsF ss.length ls [] = starsF ss.length (ls.drop (k + 1)) (acc ++ [s]) by rw [hst.out, hd, if_pos (by simpa using hcd)])
        obtain ⟨v', q1, hrun1, hN1, _⟩ := app_int_step (y.step u).le (hM.later u) s (by omega) 25
        obtain ⟨a1', n1', c1', rfl⟩ := hN1.form'
        simp only [Later.step_w] at hrun1
        have HR := Lib.hid hrun1
        clear hrun1
        go_wp2_with fail
        refine hPl.mono ?_
        rintro e w' ⟨rfl, rfl⟩
        go_wp2_with ((with_reducible show wpList _ _ _ (⟨some 71, _, _, _, _, _⟩ :: _) _ _); refine Lib.wpList_append_run_sl _ rfl _ _ 25 rfl _ _ rfl rfl HR.out ?_)
        go_roundw
        case rel => exact ⟨k + 1, acc ++ [s], q1, rfl, by omega, by go_num, hN1, by simp; omega, hd2⟩
        case measure => simp [intOf]; omega
    · have hfin : starsF ss.length ls [] = acc := by rw [hst.out, starsF_end _ _ _ _ (by omega)]
      have hok := starsF_ok (S := (ss.length : Int)) (by omega) ls [] (by simp) (by simp)
      rw [hfin] at hok
      have hVx := Lib.hid (more_valid HV.out ats acc h6 hok.1 hok.2)
      have hMo := Lib.hid (more_more HV.out ats acc)
      have hbxy := hbx.later y
      have hRy := hRV.later y
      have hMi := hM.ints (by omega)
      have hlX : z.w.heap.size ≤ q.w.heap.size := Nat.le_trans x.size hxq
      obtain ⟨a2, n2, c2, w', hrun, hN, hg⟩ := app_row3 (lx := z.w.heap.size) (lo := x.w.heap.size) x.size (Nat.le_trans hxq (Nat.le_of_lt hbxy.lt)) hRy hMi (Sep.of_own hM) (by omega) 22
      have hbx' := hbxy.kept hg (hRy.not_box hbxy)
      obtain ⟨U, hU⟩ : ∃ U : Later z.w, U.w = w'.setCell ⟨q.w.heap.size, 0, none⟩ (.slice a2 n2 c2) := ⟨⟨_, ((V.step y).le.grown hg (V.step y).size (fun j hj => Nat.le_trans x.size (hRy.lt hj).1)).setCell (p := ⟨q.w.heap.size, 0, none⟩) hlX (.slice a2 n2 c2)⟩, rfl⟩
      have hbU : BoxB U.w q.w.heap.size (.slice a2 n2 c2) (.slice none 0 0) := by rw [hU]; exact hbx'.set0 _
      have hRU : Rows3 z.w.heap.size x.w.heap.size U.w (.slice a2 n2 c2) (ns ++ [acc]) := by rw [hU]; exact hN.set0 hbx' hlX 0 _
      have hown : ∀ c, (Value.slice a2 n2 c2).ownBlock = some c → c < U.w.heap.size := fun c hc => (hRU.lt hc).2
      have gx0 := hbxy.cell0
      have sx0 := hbxy.lt
      have gw0 := hbx'.cell0
      have fw0 := hbx'.frozen0
      have sw := hbx'.lt
      have HR := Lib.hid hrun
      clear hrun hfin hst hok
      go_wp2_with ((with_reducible show wpList _ _ _ (⟨some 76, _, _, _, _, _⟩ :: _) _ _); refine Lib.wpList_append_run_sl _ rfl _ _ 22 rfl _ _ rfl rfl HR.out ?_)
      rw [← hU]
      clear hU HR gw0 fw0 sw gx0 sx0 hbx' hN hg hMi hRy hbxy hM gB0 gB1 sB
      clear hak
      go_loopw [12] (fun i wr => ∃ k : Nat, ∃ u : Value, ∃ y : Later z.w, wr = y.w ∧ U.w.heap.size ≤ y.w.heap.size ∧ k ≤ ss.length ∧ i = .int .i64 k ∧ BoxB y.w q.w.heap.size (.slice a2 n2 c2) u ∧ Rows3 z.w.heap.size x.w.heap.size y.w (.slice a2 n2 c2) (ns ++ [acc]) ∧ Rows3 z.w.heap.size U.w.heap.size y.w u (moreS ats ns.length ss k)) (fun i _ => ss.length - (intOf i).toNat)
      case atStart => exact ⟨0, .slice none 0 0, U, rfl, Nat.le_refl _, Nat.zero_le _, rfl, hbU, hRU, Rows3.nil _ _ _⟩
      case round =>
        clear hk
        obtain ⟨k, u, y, rfl, hUy, hk, rfl, hbxk, hRNk, hRS⟩ := hrel
        obtain ⟨au, nu, cu, rfl⟩ := hRS.form'
        have gB0 : y.w.cell? ⟨B, 0, none⟩ = some (.slice an ns.length cn) := ((y).cell hBz).trans c0
        have gB1 : y.w.cell? ⟨B, 1, none⟩ = some (.slice aS ss.length cS) := ((y).cell hBz).trans c1
        have sB : B < y.w.heap.size := Nat.lt_of_lt_of_le hBz (y).size
        by_cases hks : k < ss.length
        · obtain ⟨bs, os, cs', fs, e, hcps, hbs, hcs⟩ := hs.at hks
          cases e
          obtain ⟨gs0, hrj⟩ := hcs k hks
          obtain ⟨ar, cr, efr⟩ := hrj.form
          rw [efr] at gs0 hrj
          have gs := (y.cell hbs).trans gs0
          have ss' : bs < y.w.heap.size := Nat.lt_of_lt_of_le hbs y.size
          have hrl := hrj.1
          clear hcs gs0 efr
          by_cases hat : ats = []
          · have hmr : row ss k = moreR ats ns.length k (row ss k) := by rw [moreR, if_pos hat]
            have hIr : Ints (Later.self y.w).w (.slice ar (row ss k).length cr) (moreR ats ns.length k (row ss k)) := by
              rw [← hmr]; exact hrj.later y
            clear hmr
            have hlat : ¬ 0 < ats.length := by rw [hat]; simp
            have hSr : Sep z.w.heap.size (Later.self y.w).w (.slice ar (row ss k).length cr) := Sep.of_ints hrj
            clear hat
            have hRS2 := hRS.later (Later.self y.w)
            have hbx2 := hbxk.later (Later.self y.w)
            obtain ⟨a3, n3, c3, w3, hrun3, hN3, hg3⟩ := app_row3 (lx := z.w.heap.size) (lo := U.w.heap.size) U.size (Nat.le_trans hUy ((Later.self y.w)).size) hRS2 hIr hSr (by rw [moreS_len]; omega) 22
            rw [← moreS_succ] at hN3
            have hbx3 := hbx2.kept hg3 (hRS2.not_box hbx2)
            have hne3 : (Value.slice a2 n2 c2).ownBlock = none ∨ (Value.slice a2 n2 c2).ownBlock ≠ (Value.slice au nu cu).ownBlock := by
              cases ho : (Value.slice a2 n2 c2).ownBlock with
              | none => exact .inl rfl
              | some c => exact .inr fun e => by have h1 := hown c ho; have h2 := (hRS2.lt e.symm).1; omega
            have hRN3 := (hRNk.later (Later.self y.w)).kept hg3 hne3 (fun c hc => ⟨Nat.le_trans U.size (hRS2.lt hc).1, hRS2.noInts hc⟩)
            have hB3 := ((y.step (Later.self y.w)).le.grown hg3 (y.step (Later.self y.w)).size (fun j hj => Nat.le_trans U.size (hRS2.lt hj).1)).setCell (p := ⟨q.w.heap.size, 1, none⟩) hlX (.slice a3 n3 c3)
            have hs3 : U.w.heap.size ≤ (w3.setCell ⟨q.w.heap.size, 1, none⟩ (.slice a3 n3 c3)).heap.size := by
              have h1 := hg3.size
              have h2 := ((Later.self y.w)).size
              have h3 : (w3.setCell ⟨q.w.heap.size, 1, none⟩ (.slice a3 n3 c3)).heap.size = w3.heap.size := by simp [World.setCell]
              rw [h3]
              exact Nat.le_trans hUy (Nat.le_trans h2 h1)
            have gw1 := hbx3.cell1
            have fw1 := hbx3.frozen1
            have sw := hbx3.lt
            have gy1 : y.w.cell? ⟨q.w.heap.size, 1, none⟩ = some (.slice au nu cu) := hbx2.cell1
            have sy : q.w.heap.size < y.w.heap.size := hbx2.lt
            try simp only [Later.self_w] at hrun3
            have HR := Lib.hid hrun3
            clear hrun3
            go_wp2_with ((with_reducible show wpList _ _ _ (⟨some 121, _, _, _, _, _⟩ :: _) _ _); refine Lib.wpList_append_run_sl _ rfl _ _ 22 rfl _ _ rfl rfl HR.out ?_)
            go_roundw
            case rel => first | exact ⟨k + 1, .slice a3 n3 c3, ⟨_, hB3⟩, rfl, hs3, by omega, by go_num, hbx3.set1 _, hRN3.set0 hbx3 hlX 1 _, hN3.set0 hbx3 hlX 1 _⟩ | ((repeat apply Exists.intro); exact ⟨⟨k + 1, .slice a3 n3 c3, ⟨_, hB3⟩, rfl, hs3, by omega, by go_num, hbx3.set1 _, hRN3.set0 hbx3 hlX 1 _, hN3.set0 hbx3 hlX 1 _⟩, rfl⟩)
            case measure => simp [intOf]; omega
          · have hla : 0 < ats.length := List.length_pos_iff.2 hat
            have hmR := Lib.hid (show moreR ats ns.length k (row ss k) = putAt (row ss k) (nth ats (k % ats.length) % (((row ss k).length : Int) + 1)).toNat ns.length by rw [moreR, if_neg hat])
            obtain ⟨bd, od, cd, e, hcd, hbd, hgd⟩ := hd.at hla
            cases e
            have hjl : k % ats.length < ats.length := Nat.mod_lt _ hla
            have gd := (y.cell hbd).trans (hgd (k % ats.length) hjl)
            have sd : bd < y.w.heap.size := Nat.lt_of_lt_of_le hbd y.size
            have hx := hd.2.1 (k % ats.length) hjl
            have k0 := Int.emod_nonneg (nth ats (k % ats.length)) (show (((row ss k).length : Int) + 1) ≠ 0 by omega)
            have k1 := Int.emod_lt_of_pos (nth ats (k % ats.length)) (show (0 : Int) < ((row ss k).length : Int) + 1 by omega)
            obtain ⟨K, hK⟩ : ∃ K : Nat, nth ats (k % ats.length) % (((row ss k).length : Int) + 1) = K := ⟨(nth ats (k % ats.length) % (((row ss k).length : Int) + 1)).toNat, by omega⟩
            rw [hK, Int.toNat_natCast] at hmR
            rw [hK] at k0 k1
            have e1 : IntKind.i64.wrap (((row ss k).length : Int) + 1) = ((row ss k).length : Int) + 1 := IntWalk.i64_in _ (by omega)
            have e2 : IntKind.i64.wrap (nth ats (k % ats.length)) = nth ats (k % ats.length) := IntWalk.i64_in _ (by omega)
            have hj0 : (((k : Int) % (ats.length : Int))).toNat = k % ats.length := by omega
            have hj1 : 0 ≤ (k : Int) % (ats.length : Int) := by omega
            have hj2 : (k : Int) % (ats.length : Int) < ats.length := Int.emod_lt_of_pos _ (by omega)
            clear hgd hat
            have hKcr : K ≤ cr := by
              by_cases h0 : 0 < (row ss k).length
              · obtain ⟨_, _, _, e, hcp, _⟩ := hrj.at h0
                cases e; omega
              · omega
            have hr6 := row6 HV.out hks
            obtain ⟨base, hfr, hIf⟩ := run_from (hrj.later y) (K := K) (by omega)
            have hIt := (hrj.later y).takeS (j := K) (by omega)
            have HFR := Lib.hid hfr
            clear hfr
            go_wp2
            rw [hK]
            refine wp_region_any (by kernel_rfl) ?_
            refine wpAny_take (i := 1) (v := .slice ar (row ss k).length cr) rfl (by kernel_rfl) (by kernel_rfl) (by kernel_rfl) (fun _ _ _ h => h) (.inl ⟨by rfl, fun w => by rfl⟩) ?_
            simp only [List.getElem_toArray, List.getElem_cons_succ, List.getElem_cons_zero, Act.put, List.setIfInBounds_toArray, List.set]
            refine wpAny_take (i := 2) (v := .int .i64 K) rfl (by kernel_rfl) (by kernel_rfl) (by kernel_rfl) (fun _ _ _ h => h) (.inl ⟨by rfl, fun w => by rfl⟩) ?_
            simp only [List.getElem_toArray, List.getElem_cons_succ, List.getElem_cons_zero, Act.put, List.setIfInBounds_toArray, List.set]
            refine wpAny_take (i := 3) (v := .slice ar K cr) rfl (by kernel_rfl) (by kernel_rfl) (by kernel_rfl) (fun _ _ _ h => h) (.inl ⟨by rfl, fun w => exec_to rfl rfl rfl hKcr w⟩) ?_
            simp only [List.getElem_toArray, List.getElem_cons_succ, List.getElem_cons_zero, Act.put, List.setIfInBounds_toArray, List.set]
            refine wpAny_take (i := 5) (v := .int .i64 ns.length) rfl (by kernel_rfl) (by kernel_rfl) (by kernel_rfl) (fun _ _ _ h => h) (.inl ⟨by rfl, fun w => by rfl⟩) ?_
            simp only [List.getElem_toArray, List.getElem_cons_succ, List.getElem_cons_zero, Act.put, List.setIfInBounds_toArray, List.set]
            refine wpAny_take (i := 8) (v := .slice ar (row ss k).length cr) rfl (by kernel_rfl) (by kernel_rfl) (by kernel_rfl) (fun _ _ _ h => h) (.inl ⟨by rfl, fun w => by rfl⟩) ?_
            simp only [List.getElem_toArray, List.getElem_cons_succ, List.getElem_cons_zero, Act.put, List.setIfInBounds_toArray, List.set]
            refine wpAny_take (i := 9) (v := .int .i64 K) rfl (by kernel_rfl) (by kernel_rfl) (by kernel_rfl) (fun _ _ _ h => h) (.inl ⟨by rfl, fun w => by rfl⟩) ?_
            simp only [List.getElem_toArray, List.getElem_cons_succ, List.getElem_cons_zero, Act.put, List.setIfInBounds_toArray, List.set]
            refine wpAny_take (i := 10) (v := .slice base ((row ss k).length - K) (cr - K)) rfl (by kernel_rfl) (by kernel_rfl) (by kernel_rfl) (fun _ _ _ h => h) (.inl ⟨by rfl, fun w => exec_from rfl rfl rfl w (HFR.out w)⟩) ?_
            simp only [List.getElem_toArray, List.getElem_cons_succ, List.getElem_cons_zero, Act.put, List.setIfInBounds_toArray, List.set]
            refine Mix.any_rest (W0 := y.w) (rem := [0, 4, 6, 7, 11, 12]) (cls := Mix.kinds [0, 6] [4] [7, 11, 12]) (by kernel_rfl) ⟨Later.draw _, rfl⟩ ?_
            show Mix.Good _ _ _ _ _ _ _ (Later.draw y.w).w
            refine Mix.gnew _ rfl rfl (by rfl) (fun b => .slice (some ⟨b, 0, none⟩) 0 0) (.cells #[] 3) (fun w => by simp [go_sem]) (fun E x0 hE hxE => ?_)
            simp only [List.getElem_toArray, List.getElem_cons_succ, List.getElem_cons_zero, Act.put, List.setIfInBounds_toArray, List.set]
            refine Mix.gloud _ rfl rfl (by rfl) (fun x1 K1 hK1 => ?_)
            have z1 : Later y.w := ((Later.draw y.w).step x0).step x1
            have hE2 : IntsN y.w.heap.size x1.w (.slice (some ⟨E, 0, none⟩) 0 0) [] := (IntsN.of_block hE hxE).later x1
            obtain ⟨b2, m2, d2, q2, hrun2, hN2⟩ := app_empty hE2 ((((hIt.later (Later.draw y.w)).later x0).later x1)) (Nat.le_trans (Later.draw y.w).size (Nat.le_trans x0.size x1.size)) (by rw [List.length_take]; omega) 25
            refine Lib.wp_append_run_sl _ _ _ 25 rfl _ _ rfl rfl hrun2 ?_
            refine hK1 _ q2 ?_
            clear hK1 hrun2 z1
            simp only [List.getElem_toArray, List.getElem_cons_succ, List.getElem_cons_zero, Act.put, List.setIfInBounds_toArray, List.set]
            refine Mix.gnew _ rfl rfl (by rfl) (fun b => .slice (some ⟨b, 0, none⟩) 1 1) (.cells #[.int .i64 ns.length] 3) (fun w => by simp [go_sem]) (fun E2 x2 hE3 hxE2 => ?_)
            simp only [List.getElem_toArray, List.getElem_cons_succ, List.getElem_cons_zero, Act.put, List.setIfInBounds_toArray, List.set]
            refine Mix.glast _ rfl rfl (by rfl) (by decide) (fun x3 K3 hK3 => ?_)
            have hN3 := (hN2.later x2).later x3
            have hs3 : y.w.heap.size ≤ x3.w.heap.size := Nat.le_trans (Later.draw y.w).size (Nat.le_trans x0.size (Nat.le_trans x1.size (Nat.le_trans q2.size (Nat.le_trans x2.size x3.size))))
            have hcE : x3.w.cell? ⟨E2, 0, none⟩ = some (.int .i64 ns.length) := by
              have h1 := (x3.le.block E2 (Array.getElem?_eq_some_iff.1 hxE2).1).trans hxE2
              simp [World.cell?, h1]
            obtain ⟨v4, w4, hrun4, hN4, hg4⟩ := run_app_int x3.w y.w.heap.size _ ((row ss k).take K) E2 1 ns.length hN3 hcE (Nat.le_refl _) hs3 (by rw [List.length_take]; omega) 25
            obtain ⟨b4, m4, d4, rfl⟩ := hN4.form'
            refine Lib.wp_append_run_sl _ _ _ 25 rfl _ _ rfl rfl hrun4 ?_
            refine hK3 _ _ ?_
            clear hK3
            simp only [List.getElem_toArray, List.getElem_cons_succ, List.getElem_cons_zero, Act.put, List.setIfInBounds_toArray, List.set]
            have hB4 : Below y.w.heap.size y.w w4 := ((((((Later.draw y.w).step x0).step x1).step q2).step x2).step x3).le.trans (hN3.below hg4 hs3)
            obtain ⟨Z, hZ⟩ : ∃ Z : Later y.w, Z.w = w4 := ⟨⟨w4, hB4⟩, rfl⟩
            rw [← hZ] at hN4 ⊢
            clear hg4 hB4 hZ hrun4 hN3 hN2 hE2 hcE hs3
            refine Mix.glast _ rfl rfl (by rfl) (by decide) (fun x5 K5 hK5 => ?_)
            have hN5 := hN4.later x5
            have hs5 : y.w.heap.size ≤ x5.w.heap.size := Nat.le_trans Z.size x5.size
            obtain ⟨v6, w6, hrun6, hN6, hg6⟩ := run_app_ints x5.w y.w.heap.size _ _ ((row ss k).take K ++ [(ns.length : Int)]) ((row ss k).drop K) hN5 ((hIf.later Z).later x5) hs5 (by rw [List.length_append, List.length_take, List.length_drop]; simp; omega) 25
            obtain ⟨b6, m6, d6, rfl⟩ := hN6.form'
            refine Lib.wp_append_run_sl _ _ _ 25 rfl _ _ rfl rfl hrun6 ?_
            refine hK5 _ _ ?_
            clear hK5
            simp only [List.getElem_toArray, List.getElem_cons_succ, List.getElem_cons_zero, Act.put, List.setIfInBounds_toArray, List.set]
            have hB6 : Below y.w.heap.size y.w w6 := (Z.step x5).le.trans (hN5.below hg6 hs5)
            obtain ⟨Y, hY⟩ : ∃ Y : Later y.w, Y.w = w6 := ⟨⟨w6, hB6⟩, rfl⟩
            rw [← hY] at hN6 ⊢
            clear hg6 hB6 hY hrun6 hN5 hN4 hs5
            refine Mix.glast _ rfl rfl (by rfl) (by decide) (fun x7 K7 hK7 => ?_)
            go_wp2_with fail
            refine Mix.gdone (fun x8 => ?_)
            have hpt : (row ss k).take K ++ [(ns.length : Int)] ++ (row ss k).drop K = moreR ats ns.length k (row ss k) := by rw [hmR.out, putAt, List.append_assoc]; rfl
            rw [hpt] at hN6
            have hNr := (hN6.later x7).later x8
            have hlr : (moreR ats ns.length k (row ss k)).length ≤ 9007199254740992 := by rw [← hpt]; simp; omega
            have hIr := hNr.ints hlr
            have hSr : Sep z.w.heap.size x8.w (.slice b6 m6 d6) := Sep.of_own hNr
            obtain ⟨Y2, hY2⟩ : ∃ Y2 : Later y.w, Y2.w = x8.w := ⟨(Y.step x7).step x8, rfl⟩
            rw [← hY2] at hIr hSr ⊢
            clear hY2 hN6 hNr hpt hlr
            clear x8 x7 Y x5 Z
            have hRS2 := hRS.later Y2
            have hbx2 := hbxk.later Y2
            obtain ⟨a3, n3, c3, w3, hrun3, hN3, hg3⟩ := app_row3 (lx := z.w.heap.size) (lo := U.w.heap.size) U.size (Nat.le_trans hUy (Y2).size) hRS2 hIr hSr (by rw [moreS_len]; omega) 22
            rw [← moreS_succ] at hN3
            have hbx3 := hbx2.kept hg3 (hRS2.not_box hbx2)
            have hne3 : (Value.slice a2 n2 c2).ownBlock = none ∨ (Value.slice a2 n2 c2).ownBlock ≠ (Value.slice au nu cu).ownBlock := by
              cases ho : (Value.slice a2 n2 c2).ownBlock with
              | none => exact .inl rfl
              | some c => exact .inr fun e => by have h1 := hown c ho; have h2 := (hRS2.lt e.symm).1; omega
            have hRN3 := (hRNk.later Y2).kept hg3 hne3 (fun c hc => ⟨Nat.le_trans U.size (hRS2.lt hc).1, hRS2.noInts hc⟩)
            have hB3 := ((y.step Y2).le.grown hg3 (y.step Y2).size (fun j hj => Nat.le_trans U.size (hRS2.lt hj).1)).setCell (p := ⟨q.w.heap.size, 1, none⟩) hlX (.slice a3 n3 c3)
            have hs3 : U.w.heap.size ≤ (w3.setCell ⟨q.w.heap.size, 1, none⟩ (.slice a3 n3 c3)).heap.size := by
              have h1 := hg3.size
              have h2 := (Y2).size
              have h3 : (w3.setCell ⟨q.w.heap.size, 1, none⟩ (.slice a3 n3 c3)).heap.size = w3.heap.size := by simp [World.setCell]
              rw [h3]
              exact Nat.le_trans hUy (Nat.le_trans h2 h1)
            have gw1 := hbx3.cell1
            have fw1 := hbx3.frozen1
            have sw := hbx3.lt
            have gy1 : Y2.w.cell? ⟨q.w.heap.size, 1, none⟩ = some (.slice au nu cu) := hbx2.cell1
            have sy : q.w.heap.size < Y2.w.heap.size := hbx2.lt
            try simp only [Later.self_w] at hrun3
            have HR := Lib.hid hrun3
            clear hrun3
            go_wp2_with ((with_reducible show wpList _ _ _ (⟨some 121, _, _, _, _, _⟩ :: _) _ _); refine Lib.wpList_append_run_sl _ rfl _ _ 22 rfl _ _ rfl rfl HR.out ?_)
            go_roundw
            case rel => first | exact ⟨k + 1, .slice a3 n3 c3, ⟨_, hB3⟩, rfl, hs3, by omega, by go_num, hbx3.set1 _, hRN3.set0 hbx3 hlX 1 _, hN3.set0 hbx3 hlX 1 _⟩ | ((repeat apply Exists.intro); exact ⟨⟨k + 1, .slice a3 n3 c3, ⟨_, hB3⟩, rfl, hs3, by omega, by go_num, hbx3.set1 _, hRN3.set0 hbx3 hlX 1 _, hN3.set0 hbx3 hlX 1 _⟩, rfl⟩)
            case measure => simp [intOf]; omega
        · obtain rfl : k = ss.length := by omega
          have hRN2 := hRNk.rows x.size (by simp; omega)
          have hRS2 := hRS.rows U.size (by rw [moreS_len]; omega)
          have hbx2 := hbxk
          clear hRNk hRS hbxk hbU hRU hown hbx hRV
          have cF := First_calls _ _ ns ss y.w (hn.later y) (hs.later y)
          rw [FirstR, if_pos HV.out, HV.out] at cF
          go_wp2_with fail
          refine cF.mono ?_
          clear cF
          rintro e w' ⟨fv, y2, rfl, rfl, hF⟩
          replace hbx2 := hbx2.later y2
          replace hRN2 := hRN2.later y2
          replace hRS2 := hRS2.later y2
          obtain ⟨p, hp⟩ : ∃ p : Later z.w, y2.w = p.w := ⟨y.step y2, rfl⟩
          rw [hp] at hbx2 hRN2 hRS2 hF ⊢
          clear hp y2 gB0 gB1 sB
          obtain ⟨aF, cF, rfl⟩ := hF.form
          have gx0 := hbx2.cell0
          have gx1 := hbx2.cell1
          have sX := hbx2.lt
          have cG := First_calls _ _ (ns ++ [acc]) (moreS ats ns.length ss ss.length) p.w hRN2 hRS2
          rw [FirstR, if_pos hVx.out, hVx.out] at cG
          go_wp2_with fail
          refine cG.mono ?_
          clear cG gx0 gx1 sX hRN2
          rintro e w' ⟨gv, y3, rfl, rfl, hG⟩
          replace hF := hF.later y3
          replace hbx2 := hbx2.later y3
          replace hRS2 := hRS2.later y3
          obtain ⟨r, hr⟩ : ∃ r : Later z.w, y3.w = r.w := ⟨p.step y3, rfl⟩
          rw [hr] at hF hG hbx2 hRS2 ⊢
          clear hr y3 p
          obtain ⟨aG, cG, rfl⟩ := hG.form
          have hNat := Lib.hid fun j (hj : j < ns.length) => hMo.out.nat_rath HV.out hVx.out hj
          have hStar := Lib.hid fun j (hj : j < ss.length) => hMo.out.star_rath HV.out hVx.out hj
          have lG := (claims_sett hVx.out).1.len
          rw [List.length_append, List.length_singleton] at lG
          have lF := (claims_sett HV.out).1.len
          obtain ⟨g, eg⟩ : ∃ g, claimsF (tabOf (ns ++ [acc]) (moreS ats ns.length ss ss.length)) (ns ++ [acc]) = g := ⟨_, rfl⟩
          obtain ⟨f, ef⟩ : ∃ f, claimsF (tabOf ns ss) ns = f := ⟨_, rfl⟩
          rw [eg] at hG hNat hStar lG ⊢
          rw [ef] at hF hNat hStar lF ⊢
          clear eg ef
          have e9 : IntKind.i64.wrap ((ns.length : Int) + 1) = (ns.length : Int) + 1 := IntWalk.i64_in _ (by omega)
          have hlS := moreS_len ats ns.length ss ss.length
          obtain ⟨aS2, cS2, eS2⟩ : ∃ a c, Value.slice au nu cu = .slice a ss.length c := by obtain ⟨a, c, e⟩ := hRS2.form; rw [hlS] at e; exact ⟨a, c, e⟩
          cases eS2
          rw [lF, lG]
          go_wp2
          go_loopw [19] (fun i wr => ∃ j : Nat, ∃ y : Later r.w, wr = y.w ∧ j ≤ ns.length ∧ i = .int .i64 j) (fun i _ => ns.length - (intOf i).toNat)
          case atStart => exact ⟨0, Later.self _, rfl, Nat.zero_le _, rfl⟩
          case round =>
            obtain ⟨j, y, rfl, hj, rfl⟩ := hrel
            have gB0 : y.w.cell? ⟨B, 0, none⟩ = some (.slice an ns.length cn) := ((r.step y).cell hBz).trans c0
            have gB1 : y.w.cell? ⟨B, 1, none⟩ = some (.slice aS ss.length cS) := ((r.step y).cell hBz).trans c1
            have sB : B < y.w.heap.size := Nat.lt_of_lt_of_le hBz (r.step y).size
            by_cases hjn : j < ns.length
            · obtain ⟨bn, on, cn', fn, e, hcpn, hbn, hcn⟩ := hn.at hjn
              cases e
              obtain ⟨gn0, hrj⟩ := hcn j hjn
              have gn : y.w.cell? ⟨bn, on + j, none⟩ = some (fn j) := ((r.step y).cell hbn).trans gn0
              have sn : bn < y.w.heap.size := Nat.lt_of_lt_of_le hbn (r.step y).size
              obtain ⟨bF, oF, cF', e, hcpF, hbF, hcF⟩ := hF.at (k := j) (by omega)
              cases e
              obtain ⟨bG, oG, cG', e, hcpG, hbG, hcG⟩ := hG.at (k := j) (by omega)
              cases e
              have gF := (y.cell hbF).trans (hcF j (by omega))
              have gG := (y.cell hbG).trans (hcG j (by omega))
              have sF : bF < y.w.heap.size := Nat.lt_of_lt_of_le hbF y.size
              have sG : bG < y.w.heap.size := Nat.lt_of_lt_of_le hbG y.size
              have hjG : (j : Int) < (ns.length : Int) + 1 := by omega
              have R1 := fun (u : Later y.w) => lrather_calls (fn j) (row ns j) (nth g j) (nth f j) u.w (((hrj.later r).later y).later u)
              rw [hNat.out j hjn] at R1
              have R1 := Lib.hid R1
              clear hcF hcG hcn gn0
              go_wp2
              refine region_later_lit (by kernel_rfl) (by kernel_rfl) ?_
              repeat (first | go_big_quiet_step (first
                   | (go_at_call 44; (with_reducible exact Later.quiet_same _ (R1.out _)))))
              refine wpQuiet_nil ?_
              intro u
              go_wp2
              go_roundw
              case rel => exact ⟨j + 1, y.step u, rfl, by omega, by go_num⟩
              case measure => simp [intOf]; omega
            · go_wp2
              go_loopw [20] (fun i wr => ∃ j : Nat, ∃ y : Later r.w, wr = y.w ∧ j ≤ ss.length ∧ i = .int .i64 j) (fun i _ => ss.length - (intOf i).toNat)
              case atStart => exact ⟨0, y, rfl, Nat.zero_le _, rfl⟩
              case round =>
                clear gB0 gB1 sB y hj hjn
                obtain ⟨j, y, rfl, hj, rfl⟩ := hrel
                have hbx3 := hbx2.later y
                have gx0 := hbx3.cell0
                have gx1 := hbx3.cell1
                have sX := hbx3.lt
                by_cases hjs : j < ss.length
                · obtain ⟨bn, on, cn', fn, e, hcpn, hbn, hcn⟩ := hRS2.at (k := j) (by rw [hlS]; exact hjs)
                  rw [hlS] at e
                  cases e
                  obtain ⟨gn0, hrj⟩ := hcn j (by rw [hlS]; exact hjs)
                  have gn : y.w.cell? ⟨bn, on + j, none⟩ = some (fn j) := (y.cell hbn).trans gn0
                  have sn : bn < y.w.heap.size := Nat.lt_of_lt_of_le hbn y.size
                  have P1 := Lib.hid (fun (u : Later y.w) => Place_calls _ f (j : Int) u.w ((hF.later y).later u))
                  have P2 := Lib.hid (fun (u : Later y.w) => Place_calls _ g (j : Int) u.w ((hG.later y).later u))
                  have R1 := fun (u : Later y.w) => lrather_calls (fn j) (row (moreS ats ns.length ss ss.length) j) (plc f j) (plc g j) u.w ((hrj.later y).later u)
                  rw [hStar.out j hjs] at R1
                  have R1 := Lib.hid R1
                  rw [lF] at P1
                  rw [lG] at P2
                  clear hcn gn0
                  go_wp2
                  refine region_later_lit (by kernel_rfl) (by kernel_rfl) ?_
                  repeat (first | go_big_quiet_step (first
                       | (go_at_call 45; first | (with_reducible exact Later.quiet_same _ (P1.out _)) | (with_reducible exact Later.quiet_same _ (P2.out _)))
                       | (go_at_call 44; (with_reducible exact Later.quiet_same _ (R1.out _)))))
                  refine wpQuiet_nil ?_
                  intro u
                  go_wp2
                  go_roundw
                  case rel => exact ⟨j + 1, y.step u, rfl, by omega, by go_num⟩
                  case measure => simp [intOf]; omega
                · go_wp2_with fail
                  refine (Works_calls y.w).mono ?_
                  rintro e w' ⟨rfl, u, rfl⟩
                  go_wp2
                  go_ret
                  exact ⟨rfl, ((z.step r).step y).step u, rfl⟩
end Go.Proofs.Ytieaibebnkdmhaa
