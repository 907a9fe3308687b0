import Derived.Test.YtpkgfkeekcgkcaaKO
import Derived.Test.YtpkgfkeekcgkcaaKI
import Derived.Test.YtpkgfkeekcgkcaaKK
import Derived.Test.YtpkgfkeekcgkcaaKL
import Derived.Test.YtpkgfkeekcgkcaaKM
import Derived.Test.YtpkgfkeekcgkcaaKE
import Derived.Test.YtpkgfkeekcgkcaaKC
import Derived.Test.YtpkgfkeekcgkcaaKF
import Derived.Test.YtpkgfkeekcgkcaaKH
/-  The examples of the chapter: what they come to. -/
namespace Go.Proofs.Ytpkgfkeekcgkcaa
open Go.RowKit
open Lcs (few len CP)
def tAtlas : List UInt8 := [97, 116, 108, 97, 115]
def tAtlant : List UInt8 := [97, 116, 108, 97, 110, 116]
def tEngrave : List UInt8 := [101, 110, 103, 114, 97, 118, 101]
def tGraven : List UInt8 := [103, 114, 97, 118, 101, 110]
def xA : List (List UInt8) := [[], [], [], [], [], [110, 116]]
def xB : List (List UInt8) := [[65], [], [], [], [], []]
def xC : List (List UInt8) := [[], [], [], [], [], [120]]
def xD : List (List UInt8) := [[110], []]
theorem ex_marks : marksA 5 5 [110, 116] = xA ∧ marksA 5 0 [65] = xB ∧ marksA 5 5 [120] = xC ∧ marksA 1 0 [110] = xD := by decide +kernel
theorem ex_read : readL tAtlas [4] xA = tAtlant ∧ readN tAtlas [4] xA = 3 ∧ marksE tAtlas [4] xA = 0 := by decide +kernel
theorem ex_back : backS tAtlas [4] xA = [4, 5] ∧ backA tAtlas [4] xA = marksA 6 4 [115] ∧ backE tAtlas [4] xA = 0 := by decide +kernel
theorem ex_back2 : backS [115] [0] xD = [0] ∧ backA [115] [0] xD = marksA 1 1 [115] ∧ backE [115] [0] xD = 0 := by decide +kernel
theorem ex_merge : mergeS tAtlas [4] xA [0] xB = [0, 4] ∧ mergeA tAtlas [4] xA [0] xB = (marksA 5 0 [65]).set 5 [110, 116] ∧ mergeE tAtlas [4] xA [0] xB = 0 := by decide +kernel
theorem ex_merge2 : mergeE tAtlas [4] xA [] xC = 21 := by decide +kernel
theorem ex_clash : clashV tAtlas [4] xA [] xC = 5 ∧ clashE tAtlas [4] xA [] xC = 0 := by decide +kernel
def rowC (p : Nat → Nat) (x : UInt8) (b : List UInt8) : Nat → Nat
  | 0 => 0
  | j + 1 => if x = Lcs.ch b j then p j + 1 else max (rowC p x b j) (p (j + 1))
def lcC (a b : List UInt8) : Nat → Nat → Nat
  | 0 => fun _ => 0
  | i + 1 => rowC (lcC a b i) (Lcs.ch a i) b
theorem lc_C (a b : List UInt8) : ∀ i j, Lcs.lc a b i j = lcC a b i j
  | 0, j => by rw [Lcs.zero_lc]; rfl
  | i + 1, 0 => by rw [Lcs.lc_zero]; rfl
  | i + 1, j + 1 => by
    rw [Lcs.lc, lc_C a b i j, lc_C a b (i + 1) j, lc_C a b i (j + 1)]
    rfl
theorem few_C (a b : List UInt8) : few a b = a.length + b.length - 2 * lcC a b a.length b.length := by rw [few, len, lc_C]
theorem ex_few : fewE tEngrave tGraven = 3 ∧ txtsE tEngrave tGraven = 0 := by rw [fewE, few_C]; decide +kernel
theorem ex_len : len tEngrave tGraven = 5 ∧ few tEngrave tGraven = 3 := by rw [few_C, len, lc_C]; decide +kernel
theorem ex_cc : ccN tEngrave tGraven [(2, 0), (3, 1), (4, 2)] = 3 ∧ ccE tEngrave tGraven [(2, 0), (3, 1), (4, 2)] = 0 ∧ ccE tEngrave tGraven [(3, 1), (2, 0)] = 14 := by decide +kernel
theorem ex_lb : lbN tEngrave tGraven [1, 2, 1, 2, 3, 4, 5] = 5 ∧ lbE tEngrave tGraven [1, 2, 1, 2, 3, 4, 5] = 0 ∧ lbE tEngrave tGraven [1, 1, 1, 2, 3, 4, 5] = 14 := by decide +kernel
theorem ex_labels : labelsL tEngrave tGraven = [1, 2, 1, 2, 3, 4, 5] := by decide +kernel
theorem ex_uns : unsH 8 6 4 1 2 = 2 ∧ unsE 8 6 4 1 2 = 0 ∧ unsE 8 6 1 1 1 = 14 := by
  simp only [unsH, unsE, argU, shareU, unsM]; decide
end Go.Proofs.Ytpkgfkeekcgkcaa

/-  Works: its last condition. -/
namespace Go.Proofs.Ytpkgfkeekcgkcaa
open Go.RowKit
open Lcs (few len CP)
theorem cp_cc {a b : List UInt8} {ps : List (Nat × Nat)} (h : txtsE a b = 0) (hc : CP a b ps) : ccE a b (ps.map natP) = 0 ∧ ccN a b (ps.map natP) = ps.length := by
  have e := cc_ok (a := a) (b := b) (ps := ps.map natP) h ?_ ?_ ?_
  · rw [List.length_map] at e; exact e
  · rw [List.any_eq_false]
    intro p hp
    obtain ⟨q, hq, rfl⟩ := List.mem_map.1 hp
    have := hc.eq q hq
    rw [strayC, natP, decide_eq_false (by dsimp only; omega), decide_eq_false (by dsimp only; omega), decide_eq_false (by dsimp only; omega), decide_eq_false (by dsimp only; omega)]
    simp
  · rw [List.any_eq_false]
    intro p hp
    obtain ⟨q, hq, rfl⟩ := List.mem_map.1 hp
    have := (hc.eq q hq).2.2
    simp [diffC, natP, bt_ch, this]
  · rw [List.any_eq_false]
    intro i hi
    have hi := List.mem_range.1 hi
    rw [List.length_map] at hi
    by_cases h0 : 0 < i
    · have h1 := List.pairwise_iff_getElem.1 hc.inc (i - 1) i (by omega) hi (by omega)
      rw [stepC, pr_eq (by rw [List.length_map]; omega), pr_eq (by rw [List.length_map]; omega), List.getElem_map, List.getElem_map]
      simp [befP, natP, h1.1, h1.2]
    · simp [stepC]; omega
theorem Ints.block {V : World} {b : Nat} {T : TypeId} {xs : List Int} {n : Nat} (h : Lin V b T (xs.map (Value.int .i64))) (hn : n = xs.length ∧ n ≤ 1000000) : Ints V (.slice (some ⟨b, 0, none⟩) n n) xs := by
  obtain ⟨rfl, hn⟩ := hn
  exact ⟨by omega, .inr ⟨b, 0, xs.length, rfl, Nat.le_refl _, h.lt, fun k hk => by rw [Nat.zero_add]; exact h.cell (by simp [nth, hk])⟩⟩
theorem Ints.past_str {U : World} {v : Value} {st : List Int} (h : Ints U v st) {p : Addr} {x : ByteArray} (hp : U.cell? p = some (.string x)) (y : Value) : Ints (U.setCell p y) v st := by
  obtain ⟨h1, h2⟩ := h
  refine ⟨h1, h2.imp id ?_⟩
  rintro ⟨b, o, c, e, hc, hb, hg⟩
  refine ⟨b, o, c, e, hc, by simpa using hb, fun k hk => ?_⟩
  have := hg k hk
  have hne : p ≠ ⟨b, o + k, none⟩ := fun e => by rw [e, this] at hp; cases hp
  first | exact (World.cell?_setCell_other _ _ _ _ hne).trans this | exact (World.cell?_setCell_other _ _ _ _ (Ne.symm hne)).trans this

def regionN (n : Nat) : Code → Option Code
  | .region id ops d => if id = n then some (.region id ops d) else none
  | .seq a b => match regionN n a with
    | some c => some c
    | none => regionN n b
  | .loop c => regionN n c
  | .block _ c => regionN n c
  | .scope c => regionN n c
  | .cond _ a b => match regionN n a with
    | some c => some c
    | none => regionN n b
  | _ => none
theorem q_frame {Q : Exit → Act → World → Prop} {x : Exit} {w : World} {ts : Array Value} {ds : List Deferred} (mk : (Nat → Value) → Array Value) (h : ts = mk (fun i => ts.getD i undef)) (hw : ∀ u, Q x ⟨mk u, ds⟩ w) : Q x ⟨ts, ds⟩ w := by
  rw [h]; exact hw _
theorem wp_frame {P : Program} {c : Code} {Q : Exit → Act → World → Prop} {w : World} {ts : Array Value} {ds : List Deferred} (mk : (Nat → Value) → Array Value) (h : ts = mk (fun i => ts.getD i undef)) (hw : ∀ u, Code.wp P c Q ⟨mk u, ds⟩ w) : Code.wp P c Q ⟨ts, ds⟩ w := by
  rw [h]; exact hw _
noncomputable def wEnd : Code := ((Try.f19.body.bind (regionN 24)).getD .skip)
set_option maxRecDepth 100000 in
set_option maxHeartbeats 8000000 in
theorem Works_end (V : World) (u : Nat → Value) {sxx : Option Addr} {nsx csx : Nat} {aax : Option Addr} {nax cax : Nat} {bx : Nat} (lx : Lin V bx 25 [.slice sxx nsx csx, .slice aax nax cax]) (hmx : Mks V (.slice sxx nsx csx) (.slice aax nax cax) [4, 5] (marksA 6 4 [115])) {sxy : Option Addr} {nsy csy : Nat} {aay : Option Addr} {nay cay : Nat} {by' : Nat} (ly : Lin V by' 25 [.slice sxy nsy csy, .slice aay nay cay]) (hmy : Mks V (.slice sxy nsy csy) (.slice aay nay cay) [0] (marksA 1 1 [115])) {sxm : Option Addr} {nsm csm : Nat} {aam : Option Addr} {nam cam : Nat} {bm : Nat} (lm : Lin V bm 25 [.slice sxm nsm csm, .slice aam nam cam]) (hmm : Mks V (.slice sxm nsm csm) (.slice aam nam cam) [0, 4] ((marksA 5 0 [65]).set 5 [110, 116])) {sxk : Option Addr} {nsk csk : Nat} {aak : Option Addr} {nak cak : Nat} {bk : Nat} (lk : Lin V bk 25 [.slice sxk nsk csk, .slice aak nak cak]) (hmk : Mks V (.slice sxk nsk csk) (.slice aak nak cak) [0, 4] ((marksA 5 0 [65]).set 5 [110, 116])) {bu : Nat} (lu : Lin V bu 57 [.int .i64 0, .int .i64 2]) {at' : Option Addr} {nt ct : Nat} (ht : Ints V (.slice at' nt ct) [1, 2, 1, 2, 3, 4, 5]) (Q : Exit → Act → World → Prop)
    (hQ : ∀ (u2 : Nat → Value) (y : Later V), Q .normal ⟨#[.bool true, u2 1, u2 2, u2 3, u2 4, u2 5, u2 6, u2 7, u2 8, u2 9, u2 10, u2 11, u2 12, u2 13, u2 14, u2 15, u2 16, u2 17, u2 18, u2 19, u2 20, u2 21, u2 22, u2 23, u2 24, u2 25, u2 26, u2 27, u2 28, u2 29, u2 30, u2 31, u2 32, u2 33, u2 34, u2 35, u2 36, u2 37, u2 38, u2 39, u2 40, u2 41, u2 42, u2 43, u2 44, u2 45, u2 46, u2 47, u2 48, u2 49, u2 50, u2 51, u2 52, u2 53, u2 54, u2 55, u2 56, u2 57, u2 58, u2 59, u2 60, u2 61, u2 62, u2 63, u2 64, u2 65, u2 66, u2 67, u2 68, u2 69, u2 70, u2 71, u2 72, u2 73, u2 74, u2 75, u2 76, u2 77, u2 78, u2 79, u2 80, u2 81, u2 82, u2 83, u2 84, u2 85, u2 86, u2 87, u2 88, u2 89, u2 90, u2 91, u2 92, u2 93, u2 94, u2 95, u2 96, u2 97, u2 98, u2 99, u2 100, u2 101, u2 102, u2 103, u2 104, u2 105, u2 106, u2 107, u2 108, u2 109, u2 110, u2 111, u2 112, u2 113, u2 114, u2 115, u2 116, u2 117, u2 118, u2 119, u2 120, u2 121, u2 122, u2 123, u2 124, u2 125, u2 126, u2 127, u2 128, u2 129, u2 130, u2 131, u2 132, u2 133, u2 134, u2 135, u2 136, u2 137, u2 138, u2 139, u2 140, u2 141, u2 142, u2 143, u2 144, u2 145, u2 146, u2 147, u2 148, u2 149, u2 150, u2 151, u2 152, u2 153, u2 154, u2 155, u2 156, u2 157, u2 158, u2 159, u2 160, u2 161, u2 162, u2 163, u2 164, u2 165, u2 166, u2 167, u2 168, u2 169, u2 170, u2 171, u2 172, u2 173, u2 174, u2 175, u2 176, u2 177, u2 178, u2 179, u2 180, u2 181, u2 182, u2 183, u2 184, u2 185, u2 186, u2 187, u2 188, u2 189, u2 190, u2 191, u2 192, u2 193, u2 194, u2 195, u2 196, u2 197, u2 198, u2 199, u2 200, u2 201, u2 202, u2 203, u2 204, u2 205, u2 206, u2 207, u2 208, u2 209, u2 210, u2 211, u2 212, u2 213, u2 214, u2 215, u2 216, u2 217, u2 218, u2 219, u2 220, u2 221, u2 222, u2 223, u2 224, u2 225, u2 226, u2 227, u2 228, u2 229, u2 230, u2 231, u2 232, u2 233, u2 234, u2 235, u2 236, u2 237, u2 238, u2 239, u2 240, u2 241, u2 242, u2 243, u2 244, u2 245, u2 246, u2 247, u2 248, u2 249, u2 250, u2 251, u2 252, u2 253, u2 254, u2 255, u2 256, u2 257, u2 258, u2 259, u2 260, u2 261, u2 262, u2 263, u2 264, u2 265, u2 266, u2 267, u2 268, u2 269, u2 270, u2 271, u2 272, u2 273, u2 274, u2 275, u2 276, u2 277, u2 278, u2 279, u2 280, u2 281, u2 282, u2 283, u2 284, u2 285], []⟩ y.w) : Code.wp Try.prog wEnd Q ⟨#[u 0, u 1, u 2, u 3, u 4, .string ⟨#[97, 116, 108, 97, 110, 116]⟩, .int .i64 3, u 7, .pointer (some ⟨bx, 0, none⟩), u 9, .pointer (some ⟨by', 0, none⟩), u 11, .pointer (some ⟨bm, 0, none⟩), u 13, u 14, u 15, .int .i64 5, u 17, .int .i64 3, u 19, u 20, u 21, .int .i64 3, u 23, u 24, u 25, u 26, u 27, .int .i64 5, u 29, u 30, u 31, .slice at' nt ct, u 33, .pointer (some ⟨bu, 0, none⟩), u 35, u 36, u 37, .string ⟨#[103, 114, 97, 118, 101, 110]⟩, .int .i64 3, .int .i64 0, .int .i64 5, .int .i64 0, .pointer (some ⟨bk, 0, none⟩), u 44, u 45, u 46, u 47, u 48, u 49, u 50, u 51, u 52, u 53, u 54, u 55, u 56, u 57, u 58, u 59, u 60, u 61, u 62, u 63, u 64, u 65, u 66, u 67, u 68, u 69, u 70, u 71, u 72, u 73, u 74, u 75, u 76, u 77, u 78, u 79, u 80, u 81, u 82, u 83, u 84, u 85, u 86, u 87, u 88, u 89, u 90, u 91, u 92, u 93, u 94, u 95, u 96, u 97, u 98, u 99, u 100, u 101, u 102, u 103, u 104, u 105, u 106, u 107, u 108, u 109, u 110, u 111, u 112, u 113, u 114, u 115, u 116, u 117, u 118, u 119, u 120, u 121, u 122, u 123, u 124, u 125, u 126, u 127, u 128, u 129, u 130, u 131, u 132, u 133, u 134, u 135, u 136, u 137, u 138, u 139, u 140, u 141, u 142, u 143, u 144, u 145, u 146, u 147, u 148, u 149, u 150, u 151, u 152, u 153, u 154, u 155, u 156, u 157, u 158, u 159, u 160, u 161, u 162, u 163, u 164, u 165, u 166, u 167, u 168, u 169, u 170, u 171, u 172, u 173, u 174, u 175, u 176, u 177, u 178, u 179, u 180, u 181, u 182, u 183, u 184, u 185, u 186, u 187, u 188, u 189, u 190, u 191, u 192, u 193, u 194, u 195, u 196, u 197, u 198, u 199, u 200, u 201, u 202, u 203, u 204, u 205, u 206, u 207, u 208, u 209, u 210, u 211, u 212, u 213, u 214, u 215, undef, undef, undef, undef, undef, undef, undef, undef, undef, undef, undef, undef, undef, undef, undef, undef, undef, undef, undef, undef, undef, undef, undef, undef, undef, undef, undef, undef, undef, undef, undef, undef, undef, undef, undef, undef, undef, undef, undef, undef, undef, undef, undef, undef, undef, undef, undef, undef, undef, undef, undef, undef, undef, undef, undef, undef, undef, undef, undef, undef, undef, undef, undef, undef, undef, undef, undef, undef, undef, undef], []⟩ V := by
  conv => arg 2; whnf
  have S : Ins V [] := Ins.nil _
  have S := S.cons ht
  have qx_0 := lx.cell (k := 0) rfl
  have qx_1 := lx.cell (k := 1) rfl
  have qx_l := lx.lt
  have qy_0 := ly.cell (k := 0) rfl
  have qy_1 := ly.cell (k := 1) rfl
  have qy_l := ly.lt
  have qm_0 := lm.cell (k := 0) rfl
  have qm_1 := lm.cell (k := 1) rfl
  have qm_l := lm.lt
  have qk_0 := lk.cell (k := 0) rfl
  have qk_1 := lk.cell (k := 1) rfl
  have qk_l := lk.lt
  have qu_0 := lu.cell (k := 0) rfl
  have qu_1 := lu.cell (k := 1) rfl
  have qu_l := lu.lt
  refine Mix.region_mixL (Mix.kinds [8, 14, 61] [9, 10, 15, 16, 21, 62, 63] []) (by kernel_rfl) (by kernel_rfl) ?_
  simp only [List.append_eq, List.cons_append, List.nil_append]
  try go_frame
  repeat ((with_reducible refine Mix.atCons ?_); first | refine Mix.skipU (by rfl) rfl (by rfl) ?_ | (refine Mix.val rfl rfl (by rfl) (fun K hK => ?_); go_big_quiet_op; refine hK _ ?_; clear hK K) | (refine Mix.skip (by rfl) ?_; go_frame))
  refine Mix.new rfl (by rfl) (fun b => .slice (some ⟨b, 0, none⟩) 2 2) (.cells #[.int .i64 4, .int .i64 5] 3) (fun w => by simp [go_sem]) (fun N1 x1 _ hx1 => ?_)
  have hn1 : Ints x1.w (.slice (some ⟨N1, 0, none⟩) 2 2) [4, 5] := Ints.block (T := 3) (xs := [4, 5]) hx1 (by decide)
  try go_frame
  repeat ((with_reducible refine Mix.atCons ?_); first | refine Mix.skipU (by rfl) rfl (by rfl) ?_ | (refine Mix.val rfl rfl (by rfl) (fun K hK => ?_); go_big_quiet_op; refine hK _ ?_; clear hK K) | (refine Mix.skip (by rfl) ?_; go_frame))
  refine Mix.loud rfl (by rfl) (fun x2 K hK => ?_)
  go_wp2_with fail
  refine (Marks_calls [97, 116, 108, 97, 110, 116] 4 [115] _ [4, 5] (by decide) _ (hn1.later x2)).mono ?_
  rintro e w' ⟨sv, av, y2, rfl, rfl, hI, hT⟩
  have hqP : Mks y2.w sv av [4, 5] (marksA 6 4 [115]) := ⟨hI, hT.strs (by decide)⟩
  clear hI hT
  obtain ⟨sxP, nsP, csP, rfl⟩ : ∃ a n c, sv = Value.slice a n c := by obtain ⟨a, c, e⟩ := hqP.s.form; exact ⟨a, _, c, e⟩
  obtain ⟨aaP, naP, caP, rfl⟩ : ∃ a n c, av = Value.slice a n c := by obtain ⟨a, c, e⟩ := hqP.a.form; exact ⟨a, _, c, e⟩
  refine hK _ y2 ?_
  clear hK K
  try go_frame
  repeat ((with_reducible refine Mix.atCons ?_); first | refine Mix.skipU (by rfl) rfl (by rfl) ?_ | (refine Mix.val rfl rfl (by rfl) (fun K hK => ?_); go_big_quiet_op; refine hK _ ?_; clear hK K) | (refine Mix.skip (by rfl) ?_; go_frame))
  refine Mix.loud rfl (by rfl) (fun x3 K hK => ?_)
  go_wp2_with fail
  refine (Same_calls _ _ [4, 5] (marksA 6 4 [115]) _ _ [4, 5] (marksA 6 4 [115]) _ ((((hmx.later x1).later x2).later y2).later x3) (hqP.later x3)).mono ?_
  rintro e w' ⟨rfl, y3, rfl⟩
  rw [show sameM [4, 5] (marksA 6 4 [115]) [4, 5] (marksA 6 4 [115]) = true by simp [sameM]]
  refine hK _ y3 ?_
  clear hK K
  try go_frame
  repeat ((with_reducible refine Mix.atCons ?_); first | refine Mix.skipU (by rfl) rfl (by rfl) ?_ | (refine Mix.val rfl rfl (by rfl) (fun K hK => ?_); go_big_quiet_op; refine hK _ ?_; clear hK K) | (refine Mix.skip (by rfl) ?_; go_frame))
  refine Mix.new rfl (by rfl) (fun b => .slice (some ⟨b, 0, none⟩) 1 1) (.cells #[.int .i64 0] 3) (fun w => by simp [go_sem]) (fun N4 x4 _ hx4 => ?_)
  have hn4 : Ints x4.w (.slice (some ⟨N4, 0, none⟩) 1 1) [0] := Ints.block (T := 3) (xs := [0]) hx4 (by decide)
  try go_frame
  repeat ((with_reducible refine Mix.atCons ?_); first | refine Mix.skipU (by rfl) rfl (by rfl) ?_ | (refine Mix.val rfl rfl (by rfl) (fun K hK => ?_); go_big_quiet_op; refine hK _ ?_; clear hK K) | (refine Mix.skip (by rfl) ?_; go_frame))
  refine Mix.loud rfl (by rfl) (fun x5 K hK => ?_)
  go_wp2_with fail
  refine (Marks_calls [110] 1 [115] _ [0] (by decide) _ (hn4.later x5)).mono ?_
  rintro e w' ⟨sv, av, y5, rfl, rfl, hI, hT⟩
  have hqQ : Mks y5.w sv av [0] (marksA 1 1 [115]) := ⟨hI, hT.strs (by decide)⟩
  clear hI hT
  obtain ⟨sxQ, nsQ, csQ, rfl⟩ : ∃ a n c, sv = Value.slice a n c := by obtain ⟨a, c, e⟩ := hqQ.s.form; exact ⟨a, _, c, e⟩
  obtain ⟨aaQ, naQ, caQ, rfl⟩ : ∃ a n c, av = Value.slice a n c := by obtain ⟨a, c, e⟩ := hqQ.a.form; exact ⟨a, _, c, e⟩
  refine hK _ y5 ?_
  clear hK K
  try go_frame
  repeat ((with_reducible refine Mix.atCons ?_); first | refine Mix.skipU (by rfl) rfl (by rfl) ?_ | (refine Mix.val rfl rfl (by rfl) (fun K hK => ?_); go_big_quiet_op; refine hK _ ?_; clear hK K) | (refine Mix.skip (by rfl) ?_; go_frame))
  refine Mix.loud rfl (by rfl) (fun x6 K hK => ?_)
  go_wp2_with fail
  refine (Same_calls _ _ [0] (marksA 1 1 [115]) _ _ [0] (marksA 1 1 [115]) _ (((((((((hmy.later x1).later x2).later y2).later x3).later y3).later x4).later x5).later y5).later x6) (hqQ.later x6)).mono ?_
  rintro e w' ⟨rfl, y6, rfl⟩
  rw [show sameM [0] (marksA 1 1 [115]) [0] (marksA 1 1 [115]) = true by simp [sameM]]
  refine hK _ y6 ?_
  clear hK K
  try go_frame
  repeat ((with_reducible refine Mix.atCons ?_); first | refine Mix.skipU (by rfl) rfl (by rfl) ?_ | (refine Mix.val rfl rfl (by rfl) (fun K hK => ?_); go_big_quiet_op; refine hK _ ?_; clear hK K) | (refine Mix.skip (by rfl) ?_; go_frame))
  refine Mix.loud rfl (by rfl) (fun x7 K hK => ?_)
  go_wp2_with fail
  refine (Same_calls _ _ [0, 4] ((marksA 5 0 [65]).set 5 [110, 116]) _ _ [0, 4] ((marksA 5 0 [65]).set 5 [110, 116]) _ (((((((((((hmm.later x1).later x2).later y2).later x3).later y3).later x4).later x5).later y5).later x6).later y6).later x7) (((((((((((hmk.later x1).later x2).later y2).later x3).later y3).later x4).later x5).later y5).later x6).later y6).later x7)).mono ?_
  rintro e w' ⟨rfl, y7, rfl⟩
  rw [show sameM [0, 4] ((marksA 5 0 [65]).set 5 [110, 116]) [0, 4] ((marksA 5 0 [65]).set 5 [110, 116]) = true by simp [sameM]]
  refine hK _ y7 ?_
  clear hK K
  try go_frame
  repeat ((with_reducible refine Mix.atCons ?_); first | refine Mix.skipU (by rfl) rfl (by rfl) ?_ | (refine Mix.val rfl rfl (by rfl) (fun K hK => ?_); go_big_quiet_op; refine hK _ ?_; clear hK K) | (refine Mix.skip (by rfl) ?_; go_frame))
  refine Mix.new rfl (by rfl) (fun b => .slice (some ⟨b, 0, none⟩) 7 7) (.cells #[.int .i64 1, .int .i64 2, .int .i64 1, .int .i64 2, .int .i64 3, .int .i64 4, .int .i64 5] 3) (fun w => by simp [go_sem]) (fun N8 x8 _ hx8 => ?_)
  have hn8 : Ints x8.w (.slice (some ⟨N8, 0, none⟩) 7 7) [1, 2, 1, 2, 3, 4, 5] := Ints.block (T := 3) (xs := [1, 2, 1, 2, 3, 4, 5]) hx8 (by decide)
  try go_frame
  repeat ((with_reducible refine Mix.atCons ?_); first | refine Mix.skipU (by rfl) rfl (by rfl) ?_ | (refine Mix.val rfl rfl (by rfl) (fun K hK => ?_); go_big_quiet_op; refine hK _ ?_; clear hK K) | (refine Mix.skip (by rfl) ?_; go_frame))
  refine Mix.loud rfl (by rfl) (fun x9 K hK => ?_)
  go_wp2_with fail
  refine (of_calls _ _ _ _ rfl _).mono ?_
  rintro e w' ⟨rfl, hw⟩
  rw [hw]
  refine hK _ (Later.self _) ?_
  clear hK K hw w'
  simp only [Later.self_w]
  try go_frame
  repeat ((with_reducible refine Mix.atCons ?_); first | refine Mix.skipU (by rfl) rfl (by rfl) ?_ | (refine Mix.val rfl rfl (by rfl) (fun K hK => ?_); go_big_quiet_op; refine hK _ ?_; clear hK K) | (refine Mix.skip (by rfl) ?_; go_frame))
  refine Mix.loud rfl (by rfl) (fun x10 K hK => ?_)
  go_wp2_with fail
  refine (Ints_calls _ _ [1, 2, 1, 2, 3, 4, 5] [1, 2, 1, 2, 3, 4, 5] _ ((((((((((((((((S.at (v := .slice at' nt ct) (xs := [1, 2, 1, 2, 3, 4, 5]) (by simp)).later x1).later x2).later y2).later x3).later y3).later x4).later x5).later y5).later x6).later y6).later x7).later y7).later x8).later x9).later x10) ((hn8.later x9).later x10)).mono ?_
  rintro e w' ⟨rfl, y10, rfl⟩
  rw [show decide (([1, 2, 1, 2, 3, 4, 5] : List Int) = [1, 2, 1, 2, 3, 4, 5]) = true from rfl]
  refine hK _ y10 ?_
  clear hK K
  try go_frame
  repeat ((with_reducible refine Mix.atCons ?_); first | refine Mix.skipU (by rfl) rfl (by rfl) ?_ | (refine Mix.val rfl rfl (by rfl) (fun K hK => ?_); go_big_quiet_op; refine hK _ ?_; clear hK K) | (refine Mix.skip (by rfl) ?_; go_frame))
  refine Mix.done (fun x11 => ?_)
  replace hmx := (((((((((((((((((hmx.later x1).later x2).later y2).later x3).later y3).later x4).later x5).later y5).later x6).later y6).later x7).later y7).later x8).later x9).later x10).later y10).later x11)
  replace hmy := (((((((((((((((((hmy.later x1).later x2).later y2).later x3).later y3).later x4).later x5).later y5).later x6).later y6).later x7).later y7).later x8).later x9).later x10).later y10).later x11)
  replace hmm := (((((((((((((((((hmm.later x1).later x2).later y2).later x3).later y3).later x4).later x5).later y5).later x6).later y6).later x7).later y7).later x8).later x9).later x10).later y10).later x11)
  replace hmk := (((((((((((((((((hmk.later x1).later x2).later y2).later x3).later y3).later x4).later x5).later y5).later x6).later y6).later x7).later y7).later x8).later x9).later x10).later y10).later x11)
  replace S := (((((((((((((((((S.later x1).later x2).later y2).later x3).later y3).later x4).later x5).later y5).later x6).later y6).later x7).later y7).later x8).later x9).later x10).later y10).later x11)
  obtain ⟨Y1, hZ⟩ : ∃ Z : Later V, Z.w = x11.w := ⟨x1.step (x2.step (y2.step (x3.step (y3.step (x4.step (x5.step (y5.step (x6.step (y6.step (x7.step (y7.step (x8.step (x9.step (x10.step (y10.step (x11)))))))))))))))), rfl⟩
  rw [← hZ] at S hmx hmy hmm hmk ⊢
  clear hZ
  refine q_frame (fun u2 => #[.bool true, u2 1, u2 2, u2 3, u2 4, u2 5, u2 6, u2 7, u2 8, u2 9, u2 10, u2 11, u2 12, u2 13, u2 14, u2 15, u2 16, u2 17, u2 18, u2 19, u2 20, u2 21, u2 22, u2 23, u2 24, u2 25, u2 26, u2 27, u2 28, u2 29, u2 30, u2 31, u2 32, u2 33, u2 34, u2 35, u2 36, u2 37, u2 38, u2 39, u2 40, u2 41, u2 42, u2 43, u2 44, u2 45, u2 46, u2 47, u2 48, u2 49, u2 50, u2 51, u2 52, u2 53, u2 54, u2 55, u2 56, u2 57, u2 58, u2 59, u2 60, u2 61, u2 62, u2 63, u2 64, u2 65, u2 66, u2 67, u2 68, u2 69, u2 70, u2 71, u2 72, u2 73, u2 74, u2 75, u2 76, u2 77, u2 78, u2 79, u2 80, u2 81, u2 82, u2 83, u2 84, u2 85, u2 86, u2 87, u2 88, u2 89, u2 90, u2 91, u2 92, u2 93, u2 94, u2 95, u2 96, u2 97, u2 98, u2 99, u2 100, u2 101, u2 102, u2 103, u2 104, u2 105, u2 106, u2 107, u2 108, u2 109, u2 110, u2 111, u2 112, u2 113, u2 114, u2 115, u2 116, u2 117, u2 118, u2 119, u2 120, u2 121, u2 122, u2 123, u2 124, u2 125, u2 126, u2 127, u2 128, u2 129, u2 130, u2 131, u2 132, u2 133, u2 134, u2 135, u2 136, u2 137, u2 138, u2 139, u2 140, u2 141, u2 142, u2 143, u2 144, u2 145, u2 146, u2 147, u2 148, u2 149, u2 150, u2 151, u2 152, u2 153, u2 154, u2 155, u2 156, u2 157, u2 158, u2 159, u2 160, u2 161, u2 162, u2 163, u2 164, u2 165, u2 166, u2 167, u2 168, u2 169, u2 170, u2 171, u2 172, u2 173, u2 174, u2 175, u2 176, u2 177, u2 178, u2 179, u2 180, u2 181, u2 182, u2 183, u2 184, u2 185, u2 186, u2 187, u2 188, u2 189, u2 190, u2 191, u2 192, u2 193, u2 194, u2 195, u2 196, u2 197, u2 198, u2 199, u2 200, u2 201, u2 202, u2 203, u2 204, u2 205, u2 206, u2 207, u2 208, u2 209, u2 210, u2 211, u2 212, u2 213, u2 214, u2 215, u2 216, u2 217, u2 218, u2 219, u2 220, u2 221, u2 222, u2 223, u2 224, u2 225, u2 226, u2 227, u2 228, u2 229, u2 230, u2 231, u2 232, u2 233, u2 234, u2 235, u2 236, u2 237, u2 238, u2 239, u2 240, u2 241, u2 242, u2 243, u2 244, u2 245, u2 246, u2 247, u2 248, u2 249, u2 250, u2 251, u2 252, u2 253, u2 254, u2 255, u2 256, u2 257, u2 258, u2 259, u2 260, u2 261, u2 262, u2 263, u2 264, u2 265, u2 266, u2 267, u2 268, u2 269, u2 270, u2 271, u2 272, u2 273, u2 274, u2 275, u2 276, u2 277, u2 278, u2 279, u2 280, u2 281, u2 282, u2 283, u2 284, u2 285]) rfl (fun u2 => ?_)
  exact hQ u2 Y1
end Go.Proofs.Ytpkgfkeekcgkcaa
