import Derived.Shelf.Strings.Builder1
import Derived.Shelf.Strings.Builder2
import Derived.Shelf.Strings.OnBuilder
import Derived.Test.YtpkgfkeekcgkcaaKA
import Derived.Test.YtpkgfkeekcgkcaaKG
import Derived.Test.YtpkgfkeekcgkcaaKB
/-  The library's contracts on strings.Builder and strings.Join, at this program's numbers. -/
namespace Go.Proofs.Ytpkgfkeekcgkcaa
open Go.RowKit Go.Shelf
def renB : Go.Shelf.Ren := ⟨fun | 156 => 56 | 165 => 83 | 166 => 80 | 167 => 81 | 169 => 82 | 240 => 94 | 241 => 95 | 276 => 98 | 277 => 99 | n => n, fun | 31 => 23 | 9 => 9 | 3 => 3 | 4 => 4 | 0 => 0 | 20 => 20 | 72 => 120 | 76 => 123 | 70 => 118 | 37 => 61 | 75 => 122 | 127 => 135 | 164 => 140 | 5 => 5 | 80 => 83 | n => n, fun n => n⟩
theorem laysB156 : Go.Proofs.Lays.n156 Try.prog renB where
  mixed := by kernel_rfl
  f156 := Try.func56.trans (congrArg some (by kernel_rfl))
  f165 := Try.func83.trans (congrArg some (by kernel_rfl))
  f166 := Try.func80.trans (congrArg some (by kernel_rfl))
  f169 := Try.func82.trans (congrArg some (by kernel_rfl))
  f240 := Try.func94.trans (congrArg some (by kernel_rfl))
  f241 := Try.func95.trans (congrArg some (by kernel_rfl))
  f276 := Try.func98.trans (congrArg some (by kernel_rfl))
  f277 := Try.func99.trans (congrArg some (by kernel_rfl))
  t0 := Try.underlying0
  a0 := Try.isAgg0
  z0 := Try.sizeOf0
  v0 := Try.zeroValue0
  t3 := Try.underlying3
  a3 := Try.isAgg3
  z3 := Try.sizeOf3
  v3 := Try.zeroValue3
  t4 := Try.underlying4
  a4 := Try.isAgg4
  z4 := Try.sizeOf4
  v4 := Try.zeroValue4
  t9 := Try.underlying9
  a9 := Try.isAgg9
  z9 := Try.sizeOf9
  v9 := Try.zeroValue9
  t20 := Try.underlying20
  a20 := Try.isAgg20
  z20 := Try.sizeOf20
  v20 := Try.zeroValue20
  t31 := Try.underlying23
  a31 := Try.isAgg23
  z31 := Try.sizeOf23
  v31 := Try.zeroValue23
  t37 := Try.underlying61
  a37 := Try.isAgg61
  z37 := Try.sizeOf61
  v37 := Try.zeroValue61
  t70 := Try.underlying118
  a70 := Try.isAgg118
  z70 := Try.sizeOf118
  v70 := Try.zeroValue118
  t72 := Try.underlying120
  a72 := Try.isAgg120
  z72 := Try.sizeOf120
  v72 := Try.zeroValue120
  t75 := Try.underlying122
  a75 := Try.isAgg122
  z75 := Try.sizeOf122
  v75 := Try.zeroValue122
  t76 := Try.underlying123
  a76 := Try.isAgg123
  z76 := Try.sizeOf123
  v76 := Try.zeroValue123
  t127 := Try.underlying135
  a127 := Try.isAgg135
  z127 := Try.sizeOf135
  v127 := Try.zeroValue135
  t164 := Try.underlying140
  a164 := Try.isAgg140
  z164 := Try.sizeOf140
  v164 := Try.zeroValue140
theorem laysB166 : Go.Proofs.Lays.n166 Try.prog renB where
  mixed := by kernel_rfl
  f166 := Try.func80.trans (congrArg some (by kernel_rfl))
  f240 := Try.func94.trans (congrArg some (by kernel_rfl))
  f276 := Try.func98.trans (congrArg some (by kernel_rfl))
  t0 := Try.underlying0
  a0 := Try.isAgg0
  z0 := Try.sizeOf0
  v0 := Try.zeroValue0
  t3 := Try.underlying3
  a3 := Try.isAgg3
  z3 := Try.sizeOf3
  v3 := Try.zeroValue3
  t4 := Try.underlying4
  a4 := Try.isAgg4
  z4 := Try.sizeOf4
  v4 := Try.zeroValue4
  t9 := Try.underlying9
  a9 := Try.isAgg9
  z9 := Try.sizeOf9
  v9 := Try.zeroValue9
  t20 := Try.underlying20
  a20 := Try.isAgg20
  z20 := Try.sizeOf20
  v20 := Try.zeroValue20
  t37 := Try.underlying61
  a37 := Try.isAgg61
  z37 := Try.sizeOf61
  v37 := Try.zeroValue61
  t70 := Try.underlying118
  a70 := Try.isAgg118
  z70 := Try.sizeOf118
  v70 := Try.zeroValue118
  t72 := Try.underlying120
  a72 := Try.isAgg120
  z72 := Try.sizeOf120
  v72 := Try.zeroValue120
  t75 := Try.underlying122
  a75 := Try.isAgg122
  z75 := Try.sizeOf122
  v75 := Try.zeroValue122
  t164 := Try.underlying140
  a164 := Try.isAgg140
  z164 := Try.sizeOf140
  v164 := Try.zeroValue140
theorem laysB167 : Go.Proofs.Lays.n167 Try.prog renB where
  mixed := by kernel_rfl
  f167 := Try.func81.trans (congrArg some (by kernel_rfl))
  f240 := Try.func94.trans (congrArg some (by kernel_rfl))
  f276 := Try.func98.trans (congrArg some (by kernel_rfl))
  t0 := Try.underlying0
  a0 := Try.isAgg0
  z0 := Try.sizeOf0
  v0 := Try.zeroValue0
  t4 := Try.underlying4
  a4 := Try.isAgg4
  z4 := Try.sizeOf4
  v4 := Try.zeroValue4
  t5 := Try.underlying5
  a5 := Try.isAgg5
  z5 := Try.sizeOf5
  v5 := Try.zeroValue5
  t9 := Try.underlying9
  a9 := Try.isAgg9
  z9 := Try.sizeOf9
  v9 := Try.zeroValue9
  t20 := Try.underlying20
  a20 := Try.isAgg20
  z20 := Try.sizeOf20
  v20 := Try.zeroValue20
  t37 := Try.underlying61
  a37 := Try.isAgg61
  z37 := Try.sizeOf61
  v37 := Try.zeroValue61
  t70 := Try.underlying118
  a70 := Try.isAgg118
  z70 := Try.sizeOf118
  v70 := Try.zeroValue118
  t72 := Try.underlying120
  a72 := Try.isAgg120
  z72 := Try.sizeOf120
  v72 := Try.zeroValue120
  t75 := Try.underlying122
  a75 := Try.isAgg122
  z75 := Try.sizeOf122
  v75 := Try.zeroValue122
  t164 := Try.underlying140
  a164 := Try.isAgg140
  z164 := Try.sizeOf140
  v164 := Try.zeroValue140
theorem laysB169 : Go.Proofs.Lays.n169 Try.prog renB where
  mixed := by kernel_rfl
  f169 := Try.func82.trans (congrArg some (by kernel_rfl))
  t0 := Try.underlying0
  a0 := Try.isAgg0
  z0 := Try.sizeOf0
  v0 := Try.zeroValue0
  t3 := Try.underlying3
  a3 := Try.isAgg3
  z3 := Try.sizeOf3
  v3 := Try.zeroValue3
  t9 := Try.underlying9
  a9 := Try.isAgg9
  z9 := Try.sizeOf9
  v9 := Try.zeroValue9
  t37 := Try.underlying61
  a37 := Try.isAgg61
  z37 := Try.sizeOf61
  v37 := Try.zeroValue61
  t70 := Try.underlying118
  a70 := Try.isAgg118
  z70 := Try.sizeOf118
  v70 := Try.zeroValue118
  t72 := Try.underlying120
  a72 := Try.isAgg120
  z72 := Try.sizeOf120
  v72 := Try.zeroValue120
  t127 := Try.underlying135
  a127 := Try.isAgg135
  z127 := Try.sizeOf135
  v127 := Try.zeroValue135
theorem laysB240 : Go.Proofs.Lays.n240 Try.prog renB where
  mixed := by kernel_rfl
  f240 := Try.func94.trans (congrArg some (by kernel_rfl))
  f276 := Try.func98.trans (congrArg some (by kernel_rfl))
  t0 := Try.underlying0
  a0 := Try.isAgg0
  z0 := Try.sizeOf0
  v0 := Try.zeroValue0
  t4 := Try.underlying4
  a4 := Try.isAgg4
  z4 := Try.sizeOf4
  v4 := Try.zeroValue4
  t9 := Try.underlying9
  a9 := Try.isAgg9
  z9 := Try.sizeOf9
  v9 := Try.zeroValue9
  t20 := Try.underlying20
  a20 := Try.isAgg20
  z20 := Try.sizeOf20
  v20 := Try.zeroValue20
  t70 := Try.underlying118
  a70 := Try.isAgg118
  z70 := Try.sizeOf118
  v70 := Try.zeroValue118
  t72 := Try.underlying120
  a72 := Try.isAgg120
  z72 := Try.sizeOf120
  v72 := Try.zeroValue120
  t164 := Try.underlying140
  a164 := Try.isAgg140
  z164 := Try.sizeOf140
  v164 := Try.zeroValue140
theorem x72B : Go.Proofs.Builder.X72 Try.prog renB where
  sizeBuilder := by kernel_rfl
  liesBuilder := by kernel_rfl
theorem extraB : Go.Proofs.Builder.Extra Try.prog renB where
  sizeBuilder := by kernel_rfl
  liesBuilder := by kernel_rfl
  t5 := Try.underlying5
  a5 := Try.isAgg5
  z5 := Try.sizeOf5
  v5 := Try.zeroValue5
  infoByte := by kernel_rfl
  cellsByte := by kernel_rfl
  sizeByte := by kernel_rfl
  neB5 := by decide
theorem WriteByte_calls (B b : Nat) (bs : List Value) (c : Int) (w : World) (h : Lib.IsBuilder 120 5 B b bs w) (hlen : bs.length + 1 ≤ 140737488355328) (hBw : B ≤ w.heap.size) :
    Calls Try.prog 81 #[.pointer (some ⟨b, 0, none⟩), .int .u8 c] w fun e w' => e = .returned .nilIface ∧ (Lib.BuilderAt 120 5 B b (.pointer (some ⟨b, 0, none⟩)) (bs ++ [.int .u8 c]) w' ∧ Below B w w') := Any.Builder_WriteByte laysB167 extraB B b bs c w h hlen hBw
theorem WriteString_calls (B b : Nat) (bs : List Value) (s : ByteArray) (w : World) (h : Lib.IsBuilder 120 5 B b bs w) (hlen : bs.length + s.size ≤ 140737488355328) (hBw : B ≤ w.heap.size) :
    Calls Try.prog 80 #[.pointer (some ⟨b, 0, none⟩), .string s] w fun e w' => e = .returned (.tuple #[.int .i64 s.size, .nilIface]) ∧ (Lib.BuilderAt 120 5 B b (.pointer (some ⟨b, 0, none⟩)) (bs ++ Lib.strCells s) w' ∧ Below B w w') := Any.Builder_WriteString laysB166 extraB B b bs s w h hlen hBw
theorem String_calls (B b : Nat) (l : List UInt8) (w : World) (h : Lib.IsBuilder 120 5 B b (Lib.byteCells l) w) (hBw : B ≤ w.heap.size) :
    Calls Try.prog 82 #[.pointer (some ⟨b, 0, none⟩)] w fun e w' => e = .returned (.string ⟨l.toArray⟩) ∧ Below B w w' := Any.Builder_String_any laysB169 extraB B b l w h hBw
theorem Join_none (a : Option Addr) (c : Nat) (sep : ByteArray) (w : World) :
    Calls Try.prog 56 #[.slice a 0 c, .string sep] w fun e w' => e = .returned (.string ⟨#[]⟩) ∧ w' = w := Any.strings_Join_none laysB156 extraB a c sep w
theorem Join_calls (bk o c : Nat) (xs : List ByteArray) (sep : ByteArray) (w : World) (hcells : ∀ (j : Nat) x, xs[j]? = some x → w.cell? ⟨bk, o + j, none⟩ = some (.string x)) (hbk : bk < w.heap.size) (hN : xs.length ≤ 140737488355328) (hcap : xs.length ≤ c) (hlen : (Lib.join (xs.map (·.data.toList)) sep.data.toList).length ≤ 140737488355328) :
    Calls Try.prog 56 #[.slice (some ⟨bk, o, none⟩) xs.length c, .string sep] w fun e w' => e = .returned (.string ⟨(Lib.join (xs.map (·.data.toList)) sep.data.toList).toArray⟩) ∧ Below w.heap.size w w' := Any.strings_Join laysB156 extraB bk o c xs sep w hcells hbk hN hcap hlen

end Go.Proofs.Ytpkgfkeekcgkcaa

/-  The program's page.read and Read. -/
namespace Go.Proofs.Ytpkgfkeekcgkcaa
open Go.RowKit
abbrev bldT : TypeId := 120
abbrev bytT : TypeId := 5
theorem join_flat (xs : List (List UInt8)) : Lib.join xs [] = xs.flatten := by
  cases xs with
  | nil => rfl
  | cons x r => rw [Lib.join_cons, Lib.joinTail]; simp
theorem flat_cn (ad : List (List UInt8)) : ∀ k, k ≤ ad.length → (ad.take k).flatten.length = cn ad k
  | 0, _ => rfl
  | k + 1, h => by
    rw [List.take_add_one, List.flatten_append, List.length_append, flat_cn ad k (by omega), cn, sat_eq (by omega)]
    simp [show k < ad.length from by omega]
theorem join_strs (v : Value) (ad : List (List UInt8)) (w : World) (h : Strs w v ad) (hN : ad.length ≤ 1000) (hl : ad.flatten.length ≤ 100000) :
    Calls Try.prog 56 #[v, .string ⟨#[]⟩] w (Gives (.string ⟨ad.flatten.toArray⟩) w) := by
  obtain ⟨h1, ⟨rfl, a, cap, rfl⟩ | ⟨b, off, cap, rfl, hcap, hb, hc⟩⟩ := h
  · exact (Join_none a cap _ w).mono fun e w' ⟨he, hw⟩ => ⟨he, Later.self _, hw⟩
  · have e1 : (ad.map fun s => (⟨s.toArray⟩ : ByteArray)).length = ad.length := by simp
    have e2 : (ad.map fun s => (⟨s.toArray⟩ : ByteArray)).map (·.data.toList) = ad := by rw [List.map_map]; exact (List.map_congr_left fun s _ => rfl).trans (List.map_id _)
    have hj := Join_calls b off cap (ad.map fun s => (⟨s.toArray⟩ : ByteArray)) ⟨#[]⟩ w (fun j x hx => by
      simp only [List.getElem?_map, Option.map_eq_some_iff] at hx
      obtain ⟨s, hs, rfl⟩ := hx
      obtain ⟨hj, hs⟩ := List.getElem?_eq_some_iff.1 hs
      rw [hc j hj, sat_eq hj, hs]) hb (by rw [e1]; omega) (by rw [e1]; exact hcap) (by rw [e2]; show (Lib.join ad []).length ≤ _; rw [join_flat]; omega)
    rw [e1, e2] at hj
    have e3 : Lib.join ad (ByteArray.mk #[]).data.toList = ad.flatten := join_flat ad
    rw [e3] at hj
    exact hj.mono fun e w' ⟨he, hw⟩ => ⟨he, ⟨w', hw⟩, rfl⟩
set_option maxRecDepth 100000 in
set_option maxHeartbeats 4000000 in
theorem pread_calls (p : Nat) (l : List UInt8) (sv av : Value) (st : List Int) (ad : List (List UInt8)) (ho : Okm l st ad) (W : World) (hp : Pag W p sv av l) (hm : Mks W sv av st ad) :
    Calls Try.prog 55 #[.pointer (some ⟨p, 0, none⟩)] W (Gives (.string ⟨(rd st l ad (l.length + 1)).toArray⟩) W) := by
  have S : Ins W [] := Ins.nil _
  obtain ⟨sx, ns, cs, rfl⟩ : ∃ a n c, sv = .slice a n c := by obtain ⟨a, c, e⟩ := hm.s.form; exact ⟨a, _, c, e⟩
  obtain ⟨aa, na, ca, rfl⟩ : ∃ a n c, av = .slice a n c := by obtain ⟨a, c, e⟩ := hm.a.form; exact ⟨a, _, c, e⟩
  have HS := Lib.hid (show ns = st.length by obtain ⟨a, c, e⟩ := hm.s.form; cases e; rfl)
  have HA := Lib.hid (show na = ad.length by obtain ⟨a, c, e⟩ := hm.a.form; cases e; rfl)
  have hsl : ns ≤ 9007199254740992 := by rw [HS.out]; exact hm.s.1
  have hal : na ≤ 9007199254740992 := by rw [HA.out]; exact hm.a.1
  obtain ⟨n, hn⟩ : ∃ n, l.length = n := ⟨_, rfl⟩
  have h12 : n ≤ 12 := by rw [← hn]; exact ho.l12
  have HO := Lib.hid ho
  have HL := Lib.hid hn
  have HAL := Lib.hid (show na = n + 1 by rw [HA.out, ho.al, hn])
  rw [hn]
  clear hn ho
  have hsz : (⟨l.toArray⟩ : ByteArray).size = n := by rw [str_size]; exact HL.out
  have c1 := Lin.cell hp (k := 1) rfl
  have cl := Lin.lt hp
  go_enter Try.func55, Try.ntmps55
  go_wp2
  clear c1 cl
  obtain ⟨B, hB⟩ : ∃ B, B = W.heap.size := ⟨_, rfl⟩
  rw [← hB]
  obtain ⟨x0, hx0⟩ : ∃ x : Later W, x.w = W.alloc (.cells #[.pointer none, .slice none 0 0] bldT) := ⟨Later.new _ _, rfl⟩
  have hI0 : Lib.IsBuilder bldT bytT B B (Lib.byteCells (rd st l ad 0)) x0.w := by rw [hx0, hB]; exact Lib.fresh_isBuilder _ _ _
  have HI0 := Lib.hid hI0
  have HBW : Hid (∀ w', Below B W w' → Below W.heap.size W w') := Lib.hid (by rw [hB]; exact fun _ h => h)
  have HBx : Hid (∀ x : Later W, B ≤ x.w.heap.size) := Lib.hid (fun x => by rw [hB]; exact x.size)
  have HLE : Hid (∀ x : Later W, Below B W x.w) := Lib.hid (fun x => by rw [hB]; exact x.le)
  try rw [← hx0]
  clear hx0 hB hI0
  go_loopw [4, 5, 12] (fun _ _ i0 wr => ∃ (k : Nat) (u : Later W), wr = u.w ∧ k ≤ n + 1 ∧ i0 = .int .i64 k ∧ Hid (Lib.IsBuilder bldT bytT B B (Lib.byteCells (rd st l ad k)) u.w)) (fun _ _ i0 _ => n + 1 - (intOf i0).toNat)
  case atStart => exact ⟨0, x0, rfl, Nat.zero_le _, rfl, HI0⟩
  clear HI0
  obtain ⟨k, u, rfl, hk, rfl, hI⟩ := hrel
  have hna1 : na ≤ n + 1 := by have := HAL.out; omega
  have hna2 : n + 1 ≤ na := by have := HAL.out; omega
  have HLN := Lib.hid (show (rd st l ad k).length ≤ 200 by have := HO.out.rd_len k; omega)
  by_cases hlt : k < n + 1
  · have hkna : k < na := by omega
    have hmu := hm.later u
    obtain ⟨ba, oa, ka, e, hka, hba, hga⟩ := hmu.a.at (k := k) (by rw [← HA.out]; exact hkna)
    injection e with e1 e2 e3
    subst e1 e3
    have qa := hga k (by rw [← HA.out]; exact hkna)
    clear hga e2
    obtain ⟨x, hx⟩ : ∃ v, sat ad k = v := ⟨_, rfl⟩
    rw [hx] at qa
    have HX := Lib.hid hx
    have HX12 : Hid (x.length ≤ 12) := Lib.hid (by rw [← hx]; exact HO.out.sat12 k)
    clear hx hmu
    go_wp2_with fail
    refine (WriteString_calls B B _ ⟨x.toArray⟩ _ hI.out (by rw [Lib.byteCells_length, str_size]; have := HLN.out; have := HX12.out; omega) (HBx.out u)).mono ?_
    rintro e w' ⟨rfl, hb, hw⟩
    obtain ⟨v, hv⟩ : ∃ v : Later W, v.w = w' := ⟨⟨w', HBW.out _ ((HLE.out u).trans hw)⟩, rfl⟩
    rw [← hv] at hb ⊢
    have hI2 : Hid (Lib.IsBuilder bldT bytT B B (Lib.byteCells (rd st l ad k ++ x)) v.w) := Lib.hid (by rw [Lib.byteCells_append, ← show Lib.strCells ⟨x.toArray⟩ = Lib.byteCells x from rfl]; exact .inr hb)
    clear hw hb hv w' qa hI
    have hpv := Pag.later hp v
    have c2 := Lin.cell hpv (k := 2) rfl
    have cl := Lin.lt hpv
    have hmv := hm.later v
    by_cases hkn : k < n
    · have hkl : k < l.length := by rw [HL.out]; exact hkn
      obtain ⟨P, hP⟩ : ∃ P, hasB st k = P := ⟨_, rfl⟩
      have HP := Lib.hid hP
      cases P
      · have HNX := Lib.hid (show rd st l ad (k + 1) = rd st l ad k ++ x ++ [bt l k] by rw [rd, kp_no hkl hP, HX.out])
        clear hP
        have hia := fun w => run_byte l hkl w
        go_wp2_with fail
        refine (strikes_calls p _ _ l st k _ hpv hmv.s).mono ?_
        rintro e w' ⟨rfl, hw⟩
        rw [hw, HP.out]
        clear hw w'
        go_wp2_with fail
        refine (WriteByte_calls B B _ ((bt l k).toNat : Nat) _ hI2.out (by rw [Lib.byteCells_length, List.length_append]; have := HLN.out; have := HX12.out; omega) (HBx.out v)).mono ?_
        rintro e w' ⟨rfl, hb, hw⟩
        obtain ⟨z, hz⟩ : ∃ z : Later W, z.w = w' := ⟨⟨w', HBW.out _ ((HLE.out v).trans hw)⟩, rfl⟩
        rw [← hz] at hb ⊢
        have hI3 : Hid (Lib.IsBuilder bldT bytT B B (Lib.byteCells (rd st l ad k ++ x ++ [bt l k])) z.w) := Lib.hid (by rw [Lib.byteCells_append (rd st l ad k ++ x)]; exact .inr hb)
        clear hw hb hz w' hI2
        go_wp2
        go_roundw
        case rel => first | exact ⟨k + 1, z, rfl, by omega, by go_num, by rw [HNX.out]; exact hI3⟩ | ((repeat apply Exists.intro); exact ⟨⟨k + 1, z, rfl, by omega, by go_num, by rw [HNX.out]; exact hI3⟩, rfl⟩)
        case measure => simp [intOf]; omega
      · have HNX := Lib.hid (show rd st l ad (k + 1) = rd st l ad k ++ x by rw [rd, kp_yes hP, HX.out]; simp)
        clear hP
        have hia := fun w => run_byte l hkl w
        go_wp2_with fail
        refine (strikes_calls p _ _ l st k _ hpv hmv.s).mono ?_
        rintro e w' ⟨rfl, hw⟩
        rw [hw, HP.out]
        clear hw w'
        go_wp2
        go_roundw
        case rel => first | exact ⟨k + 1, v, rfl, by omega, by go_num, by rw [HNX.out]; exact hI2⟩ | ((repeat apply Exists.intro); exact ⟨⟨k + 1, v, rfl, by omega, by go_num, by rw [HNX.out]; exact hI2⟩, rfl⟩)
        case measure => simp [intOf]; omega
    have HNX := Lib.hid (show rd st l ad (k + 1) = rd st l ad k ++ x by rw [rd, kp_end (by rw [HL.out]; exact hkn), HX.out]; simp)
    go_wp2
    go_roundw
    case rel => first | exact ⟨k + 1, v, rfl, by omega, by go_num, by rw [HNX.out]; exact hI2⟩ | ((repeat apply Exists.intro); exact ⟨⟨k + 1, v, rfl, by omega, by go_num, by rw [HNX.out]; exact hI2⟩, rfl⟩)
    case measure => simp [intOf]; omega
  obtain rfl : k = n + 1 := by omega
  go_wp2_with fail
  refine (String_calls B B _ _ hI.out (HBx.out u)).mono ?_
  rintro e w' ⟨rfl, hw⟩
  go_wp2
  go_ret
  exact ⟨rfl, ⟨w', HBW.out _ ((HLE.out u).trans hw)⟩, rfl⟩
end Go.Proofs.Ytpkgfkeekcgkcaa

/-  The program's Read. -/
namespace Go.Proofs.Ytpkgfkeekcgkcaa
open Go.RowKit
set_option maxRecDepth 100000 in
set_option maxHeartbeats 4000000 in
theorem Read_calls (l : List UInt8) (sv av : Value) (st : List Int) (ad : List (List UInt8)) (W : World) (hm : Mks W sv av st ad) :
    Calls Try.prog 20 #[.string ⟨l.toArray⟩, .agg #[sv, av]] W (Gives (.tuple #[.string ⟨(readL l st ad).toArray⟩, .int .i64 (readN l st ad), .int .i64 (marksE l st ad)]) W) := by
  have S : Ins W [] := Ins.nil _
  obtain ⟨sx, ns, cs, rfl⟩ : ∃ a n c, sv = .slice a n c := by obtain ⟨a, c, e⟩ := hm.s.form; exact ⟨a, _, c, e⟩
  obtain ⟨aa, na, ca, rfl⟩ : ∃ a n c, av = .slice a n c := by obtain ⟨a, c, e⟩ := hm.a.form; exact ⟨a, _, c, e⟩
  have HS := Lib.hid (show ns = st.length by obtain ⟨a, c, e⟩ := hm.s.form; cases e; rfl)
  have HA := Lib.hid (show na = ad.length by obtain ⟨a, c, e⟩ := hm.a.form; cases e; rfl)
  have hsl : ns ≤ 9007199254740992 := by rw [HS.out]; exact hm.s.1
  have hal : na ≤ 9007199254740992 := by rw [HA.out]; exact hm.a.1
  obtain ⟨E, hE⟩ : ∃ E, marksE l st ad = E := ⟨_, rfl⟩
  have HE := Lib.hid hE
  by_cases h0 : E = 0
  rotate_left
  · have HR := Lib.hid (show readL l st ad = [] ∧ readN l st ad = 0 by rw [readL, readN, hE, if_neg h0, if_neg h0]; exact ⟨rfl, rfl⟩)
    have hne : (E != 0) = true := by simpa using h0
    have HNE := Lib.hid (show marksE l st ad ≠ 0 by rw [hE]; exact h0)
    clear hE h0
    go_enter Try.func20, Try.ntmps20
    go_wp2_with fail
    obtain ⟨B1, hb⟩ : ∃ b, b = W.heap.size := ⟨_, rfl⟩
    have l1 : Lin (W.alloc (.cells #[.slice sx ns cs, .slice aa na ca] 25)) B1 25 [.slice sx ns cs, .slice aa na ca] := by rw [hb]; exact Lin.new _ _ [.slice sx ns cs, .slice aa na ca]
    replace S := S.later (Later.new _ (.cells #[.slice sx ns cs, .slice aa na ca] 25))
    rw [Later.new_w] at S
    replace hm := hm.later (Later.new _ (.cells #[.slice sx ns cs, .slice aa na ca] 25))
    rw [Later.new_w] at hm
    have hsz : (W.alloc (.cells #[.slice sx ns cs, .slice aa na ca] 25)).heap.size = B1 + 1 := by rw [hb]; simp
    obtain ⟨Y2, hZ⟩ : ∃ Z : Later W, Z.w = W.alloc (.cells #[.slice sx ns cs, .slice aa na ca] 25) := ⟨Later.new _ _, rfl⟩
    rw [← hZ] at S hsz hm l1 ⊢
    clear hZ
    rw [← hb]
    clear hb
    clear hsz
    have q0_0 := l1.cell (k := 0) rfl
    have q0_1 := l1.cell (k := 1) rfl
    have q0_l := l1.lt
    go_wp2_with fail
    clear q0_0 q0_1 q0_l
    refine (open_err l _ _ st ad _ hm HNE.out).mono ?_
    rintro e w' ⟨rfl, y, rfl⟩
    rw [HE.out]
    replace hm := hm.later y
    replace l1 := l1.later y
    replace S := S.later y
    obtain ⟨Y3, hZ⟩ : ∃ Z : Later W, Z.w = y.w := ⟨Y2.step (y), rfl⟩
    rw [← hZ] at S hm l1 ⊢
    clear hZ
    clear y
    go_wp2
    refine bodyPost_ret (v := .tuple #[.string ⟨#[]⟩, .int .i64 0, .int .i64 E]) (by simp [results, Try.results20, go_sem]) rfl ?_
    exact ⟨by rw [HR.out.1, HR.out.2, HE.out], Y3, rfl⟩
  subst h0
  have ho := marks_ok hE
  have HR := Lib.hid (show readL l st ad = rd st l ad (l.length + 1) ∧ readN l st ad = (st.length : Int) + (cn ad (l.length + 1) : Nat) by rw [readL, readN, hE, if_pos rfl, if_pos rfl]; exact ⟨rfl, rfl⟩)
  have HO := Lib.hid ho
  obtain ⟨V, hV⟩ : ∃ V, rd st l ad (l.length + 1) = V := ⟨_, rfl⟩
  obtain ⟨J, hJ⟩ : ∃ J, ad.flatten = J := ⟨_, rfl⟩
  obtain ⟨n, hn⟩ : ∃ n, l.length + 1 = n := ⟨_, rfl⟩
  have hn13 : n ≤ 13 := by have := ho.l12; omega
  have hal : ad.length = n := by rw [ho.al, hn]
  obtain ⟨K, hK⟩ : ∃ K, cn ad n = K := ⟨_, rfl⟩
  have hK2 : K ≤ 200 := by have := ho.cn_len n; omega
  have hszJ : (⟨J.toArray⟩ : ByteArray).size = K := by rw [str_size, ← hJ, ← hK, ← flat_cn ad n (by omega), ← hal, List.take_length]
  rw [hn] at HR
  have HV := Lib.hid hV
  have HK := Lib.hid hK
  have HJ := Lib.hid hJ
  have HAL := Lib.hid hal
  have hJK : Hid (J.length = K) := Lib.hid (by rw [← hszJ, str_size])
  have hV2 := ho.l12
  have HN := Lib.hid hn
  rw [hn] at hV
  have HV2 := Lib.hid hV
  clear hE ho hV hK hJ hal hn hV2
  go_enter Try.func20, Try.ntmps20
  go_wp2_with fail
  obtain ⟨B1, hb⟩ : ∃ b, b = W.heap.size := ⟨_, rfl⟩
  have l1 : Lin (W.alloc (.cells #[.slice sx ns cs, .slice aa na ca] 25)) B1 25 [.slice sx ns cs, .slice aa na ca] := by rw [hb]; exact Lin.new _ _ [.slice sx ns cs, .slice aa na ca]
  replace S := S.later (Later.new _ (.cells #[.slice sx ns cs, .slice aa na ca] 25))
  rw [Later.new_w] at S
  replace hm := hm.later (Later.new _ (.cells #[.slice sx ns cs, .slice aa na ca] 25))
  rw [Later.new_w] at hm
  have hsz : (W.alloc (.cells #[.slice sx ns cs, .slice aa na ca] 25)).heap.size = B1 + 1 := by rw [hb]; simp
  obtain ⟨Y2, hZ⟩ : ∃ Z : Later W, Z.w = W.alloc (.cells #[.slice sx ns cs, .slice aa na ca] 25) := ⟨Later.new _ _, rfl⟩
  rw [← hZ] at S hsz hm l1 ⊢
  clear hZ
  rw [← hb]
  clear hb
  clear hsz
  have q0_0 := l1.cell (k := 0) rfl
  have q0_1 := l1.cell (k := 1) rfl
  have q0_l := l1.lt
  go_wp2_with fail
  clear q0_0 q0_1 q0_l
  refine (open_ok l _ _ st ad _ hm HE.out).mono ?_
  rintro e w' ⟨b, y, rfl, rfl, hp⟩
  replace hm := hm.later y
  replace l1 := l1.later y
  replace S := S.later y
  obtain ⟨Y3, hZ⟩ : ∃ Z : Later W, Z.w = y.w := ⟨Y2.step (y), rfl⟩
  rw [← hZ] at S hm l1 hp ⊢
  clear hZ
  clear y
  have hns : ns ≤ 9007199254740992 := hsl
  have p_0 := l1.cell (k := 0) rfl
  have p_1 := l1.cell (k := 1) rfl
  have p_l := l1.lt
  go_wp2
  refine Mix.region_mixL (Mix.kinds [] [1, 7] []) (by kernel_rfl) (by kernel_rfl) ?_
  repeat ((with_reducible refine Mix.atCons ?_); first | refine Mix.skipU (by rfl) rfl (by rfl) ?_ | (refine Mix.val rfl rfl (by rfl) (fun K hK => ?_); go_big_quiet_op; refine hK _ ?_; clear hK K) | (refine Mix.skip (by rfl) ?_; go_frame))
  refine Mix.loud rfl (by rfl) (fun x1 K hK => ?_)
  go_wp2_with fail
  refine (pread_calls b l _ _ st ad HO.out _ (hp.later x1) (hm.later x1)).mono ?_
  rintro e w' ⟨rfl, y1, rfl⟩
  rw [HV.out]
  refine hK _ y1 ?_
  clear hK K
  try go_frame
  repeat ((with_reducible refine Mix.atCons ?_); first | refine Mix.skipU (by rfl) rfl (by rfl) ?_ | (refine Mix.val rfl rfl (by rfl) (fun K hK => ?_); go_big_quiet_op; refine hK _ ?_; clear hK K) | (refine Mix.skip (by rfl) ?_; go_frame))
  refine Mix.loud rfl (by rfl) (fun x2 K hK => ?_)
  go_wp2_with fail
  refine (join_strs _ ad _ (((hm.later x1).later y1).later x2).a (by rw [HAL.out]; omega) (by rw [HJ.out, hJK.out]; omega)).mono ?_
  rintro e w' ⟨rfl, y2, rfl⟩
  rw [HJ.out]
  refine hK _ y2 ?_
  clear hK K
  try go_frame
  repeat ((with_reducible refine Mix.atCons ?_); first | refine Mix.skipU (by rfl) rfl (by rfl) ?_ | (refine Mix.val rfl rfl (by rfl) (fun K hK => ?_); go_big_quiet_op; refine hK _ ?_; clear hK K) | (refine Mix.skip (by rfl) ?_; go_frame))
  refine Mix.done (fun x3 => ?_)
  replace hm := (((((hm.later x1).later y1).later x2).later y2).later x3)
  replace l1 := (((((l1.later x1).later y1).later x2).later y2).later x3)
  replace hp := (((((hp.later x1).later y1).later x2).later y2).later x3)
  replace S := (((((S.later x1).later y1).later x2).later y2).later x3)
  obtain ⟨Y4, hZ⟩ : ∃ Z : Later W, Z.w = x3.w := ⟨Y3.step (x1.step (y1.step (x2.step (y2.step (x3))))), rfl⟩
  rw [← hZ] at S hm l1 hp ⊢
  clear hZ
  go_wp2
  refine bodyPost_ret (v := .tuple #[.string ⟨V.toArray⟩, .int .i64 ((ns : Int) + (K : Nat)), .int .i64 0]) (by simp [results, Try.results20, go_sem]) rfl ?_
  exact ⟨by rw [HR.out.1, HR.out.2, HV2.out, HK.out, HE.out, HS.out], Y4, rfl⟩
end Go.Proofs.Ytpkgfkeekcgkcaa
