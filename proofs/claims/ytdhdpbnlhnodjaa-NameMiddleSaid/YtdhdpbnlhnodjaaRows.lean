/-
  No cell of these rows narrows 'for every input' (looked for: loops, veiled, ifaces, maps, wideKeys, modest, calm, conditions, laid).
  DERIVED. THE GIVEN ROWS OF THIS SEAT. 13 by the template 'for every input the law returns true; each argument reads behind the call as it read before'; 0 by the template 'total and deterministic' (their statements: YtdhdpbnlhnodjaaTotals.lean).
  GIVEN WITH THE SEED: the statements are not yours to turn. If you find one false, say at which input.
  Laid BY PROGRAM, IN A SANDBOX (cutbox-rows.mjs): the forced cells as the released guide's own fill.sh prints them over the translation a3d8378edc036378… (all of the seat's roots in one cut). By AI agents, Wed Nov 11 2026. No macro, syntax, notation, axiom, sorry.
-/
import Derived.Test.YtdhdpbnlhnodjaaChecked
import GoSem.Claim
import GoSem.ClaimJoined
import GoSem.ClaimMapViews
import Derived.JoinedTies
import Derived.KernelRfl
namespace Go.Proofs.Ytdhdpbnlhnodjaa
/- THE CELL 'sum', in the pinned program and in every row, IS THE sha256 OF THE DUMP (.gsa) THAT YtdhdpbnlhnodjaaProg.lean LOADS. Nothing in Lean hashes anything: it is a label: what it is worth is what the hold of that sum in a sandbox is worth. -/
noncomputable def Try.pinned : Pinned := { name := "ytdhdpbnlhnodjaa", sum := "a3d8378edc0363787d247c1d8d9b3dbbdad5daf98365ef69f9d45615e586d7c8", checked := Try.checked }
namespace Rows
def none {H : Type} : Left H := { results := [], args := [] }

/-- 'burinlaw02.NameSheets': WHATEVER THE INPUT: true; the input reads as it did. -/
def nameSheetsSpec : ChangeSpec := { name := "nameSheets", fn := fun _ => fun
  | [d1, d2] => { results := [.lit (.bool true)], args := [d1, d2] }
  | _ => none }
def nameSheetsRow : OpenClaim := { program := "ytdhdpbnlhnodjaa", sum := "a3d8378edc0363787d247c1d8d9b3dbbdad5daf98365ef69f9d45615e586d7c8", func := "burin/burinlaw02.NameSheets", spec := "nameSheets", unfollowed := true, recurses := true, plainKeys := false, apart := false }
def NameSheetsSaid : Prop := nameSheetsRow.holds Try.pinned (OpenSpec.ofChange nameSheetsSpec)

/-- ITS FALSE NEIGHBOUR: 'it returns false'. Refute it at one input. -/
def nameSheetsWrong : ChangeSpec := { name := "nameSheets", fn := fun _ => fun
  | [d1, d2] => { results := [.lit (.bool false)], args := [d1, d2] }
  | _ => none }
def NameSheetsWrongFalsely : Prop := nameSheetsRow.holds Try.pinned (OpenSpec.ofChange nameSheetsWrong)

/-- 'burinlaw02.NameSets': WHATEVER THE INPUT: true; the input reads as it did. -/
def nameSetsSpec : ChangeSpec := { name := "nameSets", fn := fun _ => fun
  | [d1, d2] => { results := [.lit (.bool true)], args := [d1, d2] }
  | _ => none }
def nameSetsRow : OpenClaim := { program := "ytdhdpbnlhnodjaa", sum := "a3d8378edc0363787d247c1d8d9b3dbbdad5daf98365ef69f9d45615e586d7c8", func := "burin/burinlaw02.NameSets", spec := "nameSets", unfollowed := true, recurses := true, plainKeys := false, apart := false }
def NameSetsSaid : Prop := nameSetsRow.holds Try.pinned (OpenSpec.ofChange nameSetsSpec)

/-- ITS FALSE NEIGHBOUR: 'it returns false'. Refute it at one input. -/
def nameSetsWrong : ChangeSpec := { name := "nameSets", fn := fun _ => fun
  | [d1, d2] => { results := [.lit (.bool false)], args := [d1, d2] }
  | _ => none }
def NameSetsWrongFalsely : Prop := nameSetsRow.holds Try.pinned (OpenSpec.ofChange nameSetsWrong)

/-- 'burinlaw02.NameKinds': WHATEVER THE INPUT: true; the input reads as it did. -/
def nameKindsSpec : ChangeSpec := { name := "nameKinds", fn := fun _ => fun
  | [d1, d2, d3] => { results := [.lit (.bool true)], args := [d1, d2, d3] }
  | _ => none }
def nameKindsRow : OpenClaim := { program := "ytdhdpbnlhnodjaa", sum := "a3d8378edc0363787d247c1d8d9b3dbbdad5daf98365ef69f9d45615e586d7c8", func := "burin/burinlaw02.NameKinds", spec := "nameKinds", unfollowed := true, recurses := true, plainKeys := false, apart := false }
def NameKindsSaid : Prop := nameKindsRow.holds Try.pinned (OpenSpec.ofChange nameKindsSpec)

/-- ITS FALSE NEIGHBOUR: 'it returns false'. Refute it at one input. -/
def nameKindsWrong : ChangeSpec := { name := "nameKinds", fn := fun _ => fun
  | [d1, d2, d3] => { results := [.lit (.bool false)], args := [d1, d2, d3] }
  | _ => none }
def NameKindsWrongFalsely : Prop := nameKindsRow.holds Try.pinned (OpenSpec.ofChange nameKindsWrong)

/-- 'burinlaw02.NameChains': WHATEVER THE INPUT: true; the input reads as it did. -/
def nameChainsSpec : ChangeSpec := { name := "nameChains", fn := fun _ => fun
  | [d1, d2, d3] => { results := [.lit (.bool true)], args := [d1, d2, d3] }
  | _ => none }
def nameChainsRow : OpenClaim := { program := "ytdhdpbnlhnodjaa", sum := "a3d8378edc0363787d247c1d8d9b3dbbdad5daf98365ef69f9d45615e586d7c8", func := "burin/burinlaw02.NameChains", spec := "nameChains", unfollowed := true, recurses := true, plainKeys := false, apart := false }
def NameChainsSaid : Prop := nameChainsRow.holds Try.pinned (OpenSpec.ofChange nameChainsSpec)

/-- ITS FALSE NEIGHBOUR: 'it returns false'. Refute it at one input. -/
def nameChainsWrong : ChangeSpec := { name := "nameChains", fn := fun _ => fun
  | [d1, d2, d3] => { results := [.lit (.bool false)], args := [d1, d2, d3] }
  | _ => none }
def NameChainsWrongFalsely : Prop := nameChainsRow.holds Try.pinned (OpenSpec.ofChange nameChainsWrong)

/-- 'burinlaw02.NameBrights': WHATEVER THE INPUT: true; the input reads as it did. -/
def nameBrightsSpec : ChangeSpec := { name := "nameBrights", fn := fun _ => fun
  | [d1, d2] => { results := [.lit (.bool true)], args := [d1, d2] }
  | _ => none }
def nameBrightsRow : OpenClaim := { program := "ytdhdpbnlhnodjaa", sum := "a3d8378edc0363787d247c1d8d9b3dbbdad5daf98365ef69f9d45615e586d7c8", func := "burin/burinlaw02.NameBrights", spec := "nameBrights", unfollowed := true, recurses := true, plainKeys := false, apart := false }
def NameBrightsSaid : Prop := nameBrightsRow.holds Try.pinned (OpenSpec.ofChange nameBrightsSpec)

/-- ITS FALSE NEIGHBOUR: 'it returns false'. Refute it at one input. -/
def nameBrightsWrong : ChangeSpec := { name := "nameBrights", fn := fun _ => fun
  | [d1, d2] => { results := [.lit (.bool false)], args := [d1, d2] }
  | _ => none }
def NameBrightsWrongFalsely : Prop := nameBrightsRow.holds Try.pinned (OpenSpec.ofChange nameBrightsWrong)

/-- 'burinlaw02.NameEither': WHATEVER THE INPUT: true; the input reads as it did. -/
def nameEitherSpec : ChangeSpec := { name := "nameEither", fn := fun _ => fun
  | [d1, d2, d3, d4] => { results := [.lit (.bool true)], args := [d1, d2, d3, d4] }
  | _ => none }
def nameEitherRow : OpenClaim := { program := "ytdhdpbnlhnodjaa", sum := "a3d8378edc0363787d247c1d8d9b3dbbdad5daf98365ef69f9d45615e586d7c8", func := "burin/burinlaw02.NameEither", spec := "nameEither", unfollowed := true, recurses := true, plainKeys := false, apart := false }
def NameEitherSaid : Prop := nameEitherRow.holds Try.pinned (OpenSpec.ofChange nameEitherSpec)

/-- ITS FALSE NEIGHBOUR: 'it returns false'. Refute it at one input. -/
def nameEitherWrong : ChangeSpec := { name := "nameEither", fn := fun _ => fun
  | [d1, d2, d3, d4] => { results := [.lit (.bool false)], args := [d1, d2, d3, d4] }
  | _ => none }
def NameEitherWrongFalsely : Prop := nameEitherRow.holds Try.pinned (OpenSpec.ofChange nameEitherWrong)

/-- 'burinlaw02.NameMiddle': WHATEVER THE INPUT: true; the input reads as it did. -/
def nameMiddleSpec : ChangeSpec := { name := "nameMiddle", fn := fun _ => fun
  | [d1, d2, d3, d4, d5] => { results := [.lit (.bool true)], args := [d1, d2, d3, d4, d5] }
  | _ => none }
def nameMiddleRow : OpenClaim := { program := "ytdhdpbnlhnodjaa", sum := "a3d8378edc0363787d247c1d8d9b3dbbdad5daf98365ef69f9d45615e586d7c8", func := "burin/burinlaw02.NameMiddle", spec := "nameMiddle", unfollowed := true, recurses := true, plainKeys := false, apart := false }
def NameMiddleSaid : Prop := nameMiddleRow.holds Try.pinned (OpenSpec.ofChange nameMiddleSpec)

/-- ITS FALSE NEIGHBOUR: 'it returns false'. Refute it at one input. -/
def nameMiddleWrong : ChangeSpec := { name := "nameMiddle", fn := fun _ => fun
  | [d1, d2, d3, d4, d5] => { results := [.lit (.bool false)], args := [d1, d2, d3, d4, d5] }
  | _ => none }
def NameMiddleWrongFalsely : Prop := nameMiddleRow.holds Try.pinned (OpenSpec.ofChange nameMiddleWrong)

/-- 'burinlaw02.NameFewer': WHATEVER THE INPUT: true; the input reads as it did. -/
def nameFewerSpec : ChangeSpec := { name := "nameFewer", fn := fun _ => fun
  | [d1, d2, d3, d4, d5] => { results := [.lit (.bool true)], args := [d1, d2, d3, d4, d5] }
  | _ => none }
def nameFewerRow : OpenClaim := { program := "ytdhdpbnlhnodjaa", sum := "a3d8378edc0363787d247c1d8d9b3dbbdad5daf98365ef69f9d45615e586d7c8", func := "burin/burinlaw02.NameFewer", spec := "nameFewer", unfollowed := true, recurses := true, plainKeys := false, apart := false }
def NameFewerSaid : Prop := nameFewerRow.holds Try.pinned (OpenSpec.ofChange nameFewerSpec)

/-- ITS FALSE NEIGHBOUR: 'it returns false'. Refute it at one input. -/
def nameFewerWrong : ChangeSpec := { name := "nameFewer", fn := fun _ => fun
  | [d1, d2, d3, d4, d5] => { results := [.lit (.bool false)], args := [d1, d2, d3, d4, d5] }
  | _ => none }
def NameFewerWrongFalsely : Prop := nameFewerRow.holds Try.pinned (OpenSpec.ofChange nameFewerWrong)

/-- 'burinlaw02.NameUsed': WHATEVER THE INPUT: true; the input reads as it did. -/
def nameUsedSpec : ChangeSpec := { name := "nameUsed", fn := fun _ => fun
  | [d1, d2, d3] => { results := [.lit (.bool true)], args := [d1, d2, d3] }
  | _ => none }
def nameUsedRow : OpenClaim := { program := "ytdhdpbnlhnodjaa", sum := "a3d8378edc0363787d247c1d8d9b3dbbdad5daf98365ef69f9d45615e586d7c8", func := "burin/burinlaw02.NameUsed", spec := "nameUsed", unfollowed := true, recurses := true, plainKeys := false, apart := false }
def NameUsedSaid : Prop := nameUsedRow.holds Try.pinned (OpenSpec.ofChange nameUsedSpec)

/-- ITS FALSE NEIGHBOUR: 'it returns false'. Refute it at one input. -/
def nameUsedWrong : ChangeSpec := { name := "nameUsed", fn := fun _ => fun
  | [d1, d2, d3] => { results := [.lit (.bool false)], args := [d1, d2, d3] }
  | _ => none }
def NameUsedWrongFalsely : Prop := nameUsedRow.holds Try.pinned (OpenSpec.ofChange nameUsedWrong)

/-- 'burinlaw02.NameBright': WHATEVER THE INPUT: true; the input reads as it did. -/
def nameBrightSpec : ChangeSpec := { name := "nameBright", fn := fun _ => fun
  | [d1, d2] => { results := [.lit (.bool true)], args := [d1, d2] }
  | _ => none }
def nameBrightRow : OpenClaim := { program := "ytdhdpbnlhnodjaa", sum := "a3d8378edc0363787d247c1d8d9b3dbbdad5daf98365ef69f9d45615e586d7c8", func := "burin/burinlaw02.NameBright", spec := "nameBright", unfollowed := true, recurses := true, plainKeys := false, apart := false }
def NameBrightSaid : Prop := nameBrightRow.holds Try.pinned (OpenSpec.ofChange nameBrightSpec)

/-- ITS FALSE NEIGHBOUR: 'it returns false'. Refute it at one input. -/
def nameBrightWrong : ChangeSpec := { name := "nameBright", fn := fun _ => fun
  | [d1, d2] => { results := [.lit (.bool false)], args := [d1, d2] }
  | _ => none }
def NameBrightWrongFalsely : Prop := nameBrightRow.holds Try.pinned (OpenSpec.ofChange nameBrightWrong)

/-- 'burinlaw02.NameTurned': WHATEVER THE INPUT: true; the input reads as it did. -/
def nameTurnedSpec : ChangeSpec := { name := "nameTurned", fn := fun _ => fun
  | [d1, d2, d3, d4] => { results := [.lit (.bool true)], args := [d1, d2, d3, d4] }
  | _ => none }
def nameTurnedRow : OpenClaim := { program := "ytdhdpbnlhnodjaa", sum := "a3d8378edc0363787d247c1d8d9b3dbbdad5daf98365ef69f9d45615e586d7c8", func := "burin/burinlaw02.NameTurned", spec := "nameTurned", unfollowed := true, recurses := true, plainKeys := false, apart := false }
def NameTurnedSaid : Prop := nameTurnedRow.holds Try.pinned (OpenSpec.ofChange nameTurnedSpec)

/-- ITS FALSE NEIGHBOUR: 'it returns false'. Refute it at one input. -/
def nameTurnedWrong : ChangeSpec := { name := "nameTurned", fn := fun _ => fun
  | [d1, d2, d3, d4] => { results := [.lit (.bool false)], args := [d1, d2, d3, d4] }
  | _ => none }
def NameTurnedWrongFalsely : Prop := nameTurnedRow.holds Try.pinned (OpenSpec.ofChange nameTurnedWrong)

/-- 'burinlaw02.NameApart': WHATEVER THE INPUT: true; the input reads as it did. -/
def nameApartSpec : ChangeSpec := { name := "nameApart", fn := fun _ => fun
  | [d1, d2] => { results := [.lit (.bool true)], args := [d1, d2] }
  | _ => none }
def nameApartRow : OpenClaim := { program := "ytdhdpbnlhnodjaa", sum := "a3d8378edc0363787d247c1d8d9b3dbbdad5daf98365ef69f9d45615e586d7c8", func := "burin/burinlaw02.NameApart", spec := "nameApart", unfollowed := true, recurses := true, plainKeys := false, apart := false }
def NameApartSaid : Prop := nameApartRow.holds Try.pinned (OpenSpec.ofChange nameApartSpec)

/-- ITS FALSE NEIGHBOUR: 'it returns false'. Refute it at one input. -/
def nameApartWrong : ChangeSpec := { name := "nameApart", fn := fun _ => fun
  | [d1, d2] => { results := [.lit (.bool false)], args := [d1, d2] }
  | _ => none }
def NameApartWrongFalsely : Prop := nameApartRow.holds Try.pinned (OpenSpec.ofChange nameApartWrong)

/-- 'burinlaw02.NameKnown': WHATEVER THE INPUT: true; the input reads as it did. -/
def nameKnownSpec : ChangeSpec := { name := "nameKnown", fn := fun _ => fun
  | [] => { results := [.lit (.bool true)], args := [] }
  | _ => none }
def nameKnownRow : OpenClaim := { program := "ytdhdpbnlhnodjaa", sum := "a3d8378edc0363787d247c1d8d9b3dbbdad5daf98365ef69f9d45615e586d7c8", func := "burin/burinlaw02.NameKnown", spec := "nameKnown", unfollowed := true, recurses := true, plainKeys := false, apart := false }
def NameKnownSaid : Prop := nameKnownRow.holds Try.pinned (OpenSpec.ofChange nameKnownSpec)

/-- ITS FALSE NEIGHBOUR: 'it returns false'. Refute it at one input. -/
def nameKnownWrong : ChangeSpec := { name := "nameKnown", fn := fun _ => fun
  | [] => { results := [.lit (.bool false)], args := [] }
  | _ => none }
def NameKnownWrongFalsely : Prop := nameKnownRow.holds Try.pinned (OpenSpec.ofChange nameKnownWrong)

/- THE SECOND FORM. 'bulk': how many values and letters a reading holds, each counted each time it is reached (what is shared counts as often as it is met; a slice's spare places count too). A statement '..UptoSaid' is the law's where the arguments, and the package variables that the reading takes, are together of bulk at most 1048576: NARROWER than '..Said'. Prove '..Said' where nothing that the law and all that it calls make is longer than what came in: it says more and counts as full. Else prove '..UptoSaid'. A law counts once. -/
mutual
def uptoBulk {H : Type} : DataW H → Nat
  | .lit (.string bytes) => bytes.length + 1
  | .lit _ => 1
  | .nil => 1
  | .ptr d => uptoBulk d + 1
  | .slice elems spare => uptoBulkAll elems + uptoBulkAll spare + 1
  | .agg parts => uptoBulkAll parts + 1
  | .iface _ d => uptoBulk d + 1
  | .map entries => uptoBulkEntries entries + 1
  | .held _ => 1
def uptoBulkAll {H : Type} : List (DataW H) → Nat
  | [] => 0
  | d :: r => uptoBulk d + uptoBulkAll r
def uptoBulkEntries {H : Type} : List (Lit × DataW H) → Nat
  | [] => 0
  | x :: r => uptoBulkEntry x + uptoBulkEntries r
def uptoBulkEntry {H : Type} : Lit × DataW H → Nat
  | (.string bytes, d) => bytes.length + uptoBulk d + 1
  | (_, d) => uptoBulk d + 1
 end
def uptoSmall : (H : Type) → List (DataW H) → Bool := fun _ ds => decide (uptoBulkAll ds ≤ 1048576)
def OpenSpec.upto (s : _root_.Go.ChangeSpec) : _root_.Go.OpenSpec := { _root_.Go.OpenSpec.ofChange s with cond := some uptoSmall }

/-- 'burinlaw02.NameSheets', WHERE WHAT IT READS IS OF BULK AT MOST 1048576: true; the input reads as it did. -/
def nameSheetsUptoRow : OpenClaim := { program := "ytdhdpbnlhnodjaa", sum := "a3d8378edc0363787d247c1d8d9b3dbbdad5daf98365ef69f9d45615e586d7c8", func := "burin/burinlaw02.NameSheets", spec := "nameSheets", unfollowed := true, recurses := true, plainKeys := false, apart := false, narrowed := true }
def NameSheetsUptoSaid : Prop := nameSheetsUptoRow.holds Try.pinned (OpenSpec.upto nameSheetsSpec)

/-- 'burinlaw02.NameSets', WHERE WHAT IT READS IS OF BULK AT MOST 1048576: true; the input reads as it did. -/
def nameSetsUptoRow : OpenClaim := { program := "ytdhdpbnlhnodjaa", sum := "a3d8378edc0363787d247c1d8d9b3dbbdad5daf98365ef69f9d45615e586d7c8", func := "burin/burinlaw02.NameSets", spec := "nameSets", unfollowed := true, recurses := true, plainKeys := false, apart := false, narrowed := true }
def NameSetsUptoSaid : Prop := nameSetsUptoRow.holds Try.pinned (OpenSpec.upto nameSetsSpec)

/-- 'burinlaw02.NameKinds', WHERE WHAT IT READS IS OF BULK AT MOST 1048576: true; the input reads as it did. -/
def nameKindsUptoRow : OpenClaim := { program := "ytdhdpbnlhnodjaa", sum := "a3d8378edc0363787d247c1d8d9b3dbbdad5daf98365ef69f9d45615e586d7c8", func := "burin/burinlaw02.NameKinds", spec := "nameKinds", unfollowed := true, recurses := true, plainKeys := false, apart := false, narrowed := true }
def NameKindsUptoSaid : Prop := nameKindsUptoRow.holds Try.pinned (OpenSpec.upto nameKindsSpec)

/-- 'burinlaw02.NameChains', WHERE WHAT IT READS IS OF BULK AT MOST 1048576: true; the input reads as it did. -/
def nameChainsUptoRow : OpenClaim := { program := "ytdhdpbnlhnodjaa", sum := "a3d8378edc0363787d247c1d8d9b3dbbdad5daf98365ef69f9d45615e586d7c8", func := "burin/burinlaw02.NameChains", spec := "nameChains", unfollowed := true, recurses := true, plainKeys := false, apart := false, narrowed := true }
def NameChainsUptoSaid : Prop := nameChainsUptoRow.holds Try.pinned (OpenSpec.upto nameChainsSpec)

/-- 'burinlaw02.NameBrights', WHERE WHAT IT READS IS OF BULK AT MOST 1048576: true; the input reads as it did. -/
def nameBrightsUptoRow : OpenClaim := { program := "ytdhdpbnlhnodjaa", sum := "a3d8378edc0363787d247c1d8d9b3dbbdad5daf98365ef69f9d45615e586d7c8", func := "burin/burinlaw02.NameBrights", spec := "nameBrights", unfollowed := true, recurses := true, plainKeys := false, apart := false, narrowed := true }
def NameBrightsUptoSaid : Prop := nameBrightsUptoRow.holds Try.pinned (OpenSpec.upto nameBrightsSpec)

/-- 'burinlaw02.NameEither', WHERE WHAT IT READS IS OF BULK AT MOST 1048576: true; the input reads as it did. -/
def nameEitherUptoRow : OpenClaim := { program := "ytdhdpbnlhnodjaa", sum := "a3d8378edc0363787d247c1d8d9b3dbbdad5daf98365ef69f9d45615e586d7c8", func := "burin/burinlaw02.NameEither", spec := "nameEither", unfollowed := true, recurses := true, plainKeys := false, apart := false, narrowed := true }
def NameEitherUptoSaid : Prop := nameEitherUptoRow.holds Try.pinned (OpenSpec.upto nameEitherSpec)

/-- 'burinlaw02.NameMiddle', WHERE WHAT IT READS IS OF BULK AT MOST 1048576: true; the input reads as it did. -/
def nameMiddleUptoRow : OpenClaim := { program := "ytdhdpbnlhnodjaa", sum := "a3d8378edc0363787d247c1d8d9b3dbbdad5daf98365ef69f9d45615e586d7c8", func := "burin/burinlaw02.NameMiddle", spec := "nameMiddle", unfollowed := true, recurses := true, plainKeys := false, apart := false, narrowed := true }
def NameMiddleUptoSaid : Prop := nameMiddleUptoRow.holds Try.pinned (OpenSpec.upto nameMiddleSpec)

/-- 'burinlaw02.NameFewer', WHERE WHAT IT READS IS OF BULK AT MOST 1048576: true; the input reads as it did. -/
def nameFewerUptoRow : OpenClaim := { program := "ytdhdpbnlhnodjaa", sum := "a3d8378edc0363787d247c1d8d9b3dbbdad5daf98365ef69f9d45615e586d7c8", func := "burin/burinlaw02.NameFewer", spec := "nameFewer", unfollowed := true, recurses := true, plainKeys := false, apart := false, narrowed := true }
def NameFewerUptoSaid : Prop := nameFewerUptoRow.holds Try.pinned (OpenSpec.upto nameFewerSpec)

/-- 'burinlaw02.NameUsed', WHERE WHAT IT READS IS OF BULK AT MOST 1048576: true; the input reads as it did. -/
def nameUsedUptoRow : OpenClaim := { program := "ytdhdpbnlhnodjaa", sum := "a3d8378edc0363787d247c1d8d9b3dbbdad5daf98365ef69f9d45615e586d7c8", func := "burin/burinlaw02.NameUsed", spec := "nameUsed", unfollowed := true, recurses := true, plainKeys := false, apart := false, narrowed := true }
def NameUsedUptoSaid : Prop := nameUsedUptoRow.holds Try.pinned (OpenSpec.upto nameUsedSpec)

/-- 'burinlaw02.NameBright', WHERE WHAT IT READS IS OF BULK AT MOST 1048576: true; the input reads as it did. -/
def nameBrightUptoRow : OpenClaim := { program := "ytdhdpbnlhnodjaa", sum := "a3d8378edc0363787d247c1d8d9b3dbbdad5daf98365ef69f9d45615e586d7c8", func := "burin/burinlaw02.NameBright", spec := "nameBright", unfollowed := true, recurses := true, plainKeys := false, apart := false, narrowed := true }
def NameBrightUptoSaid : Prop := nameBrightUptoRow.holds Try.pinned (OpenSpec.upto nameBrightSpec)

/-- 'burinlaw02.NameTurned', WHERE WHAT IT READS IS OF BULK AT MOST 1048576: true; the input reads as it did. -/
def nameTurnedUptoRow : OpenClaim := { program := "ytdhdpbnlhnodjaa", sum := "a3d8378edc0363787d247c1d8d9b3dbbdad5daf98365ef69f9d45615e586d7c8", func := "burin/burinlaw02.NameTurned", spec := "nameTurned", unfollowed := true, recurses := true, plainKeys := false, apart := false, narrowed := true }
def NameTurnedUptoSaid : Prop := nameTurnedUptoRow.holds Try.pinned (OpenSpec.upto nameTurnedSpec)

/-- 'burinlaw02.NameApart', WHERE WHAT IT READS IS OF BULK AT MOST 1048576: true; the input reads as it did. -/
def nameApartUptoRow : OpenClaim := { program := "ytdhdpbnlhnodjaa", sum := "a3d8378edc0363787d247c1d8d9b3dbbdad5daf98365ef69f9d45615e586d7c8", func := "burin/burinlaw02.NameApart", spec := "nameApart", unfollowed := true, recurses := true, plainKeys := false, apart := false, narrowed := true }
def NameApartUptoSaid : Prop := nameApartUptoRow.holds Try.pinned (OpenSpec.upto nameApartSpec)

/-- 'burinlaw02.NameKnown', WHERE WHAT IT READS IS OF BULK AT MOST 1048576: true; the input reads as it did. -/
def nameKnownUptoRow : OpenClaim := { program := "ytdhdpbnlhnodjaa", sum := "a3d8378edc0363787d247c1d8d9b3dbbdad5daf98365ef69f9d45615e586d7c8", func := "burin/burinlaw02.NameKnown", spec := "nameKnown", unfollowed := true, recurses := true, plainKeys := false, apart := false, narrowed := true }
def NameKnownUptoSaid : Prop := nameKnownUptoRow.holds Try.pinned (OpenSpec.upto nameKnownSpec)

end Rows
end Go.Proofs.Ytdhdpbnlhnodjaa
