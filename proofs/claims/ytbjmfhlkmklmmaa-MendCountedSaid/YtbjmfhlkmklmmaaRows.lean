/-
  No cell of these rows narrows 'for every input' (looked for: loops, veiled, ifaces, maps, wideKeys, modest, calm, conditions, laid).
  DERIVED. THE GIVEN ROWS OF THIS SEAT. 15 by the template 'for every input the law returns true; each argument reads behind the call as it read before'; 0 by the template 'total and deterministic' (their statements: YtbjmfhlkmklmmaaTotals.lean).
  GIVEN WITH THE SEED: the statements are not yours to turn. If you find one false, say at which input.
  Laid BY PROGRAM, IN A SANDBOX (cutbox-rows.mjs): the forced cells as the released guide's own fill.sh prints them over the translation a9c735cb239af055… (all of the seat's roots in one cut). By AI agents, Wed Nov 11 2026. No macro, syntax, notation, axiom, sorry.
-/
import Derived.Test.YtbjmfhlkmklmmaaChecked
import GoSem.Claim
import GoSem.ClaimJoined
import GoSem.ClaimMapViews
import Derived.JoinedTies
import Derived.KernelRfl
namespace Go.Proofs.Ytbjmfhlkmklmmaa
/- THE CELL 'sum', in the pinned program and in every row, IS THE sha256 OF THE DUMP (.gsa) THAT YtbjmfhlkmklmmaaProg.lean LOADS. Nothing in Lean hashes anything: it is a label: what it is worth is what the hold of that sum in a sandbox is worth. -/
noncomputable def Try.pinned : Pinned := { name := "ytbjmfhlkmklmmaa", sum := "a9c735cb239af055e2b57225ed00ed70253453f515f628cccb47633b5b4102bc", checked := Try.checked }
namespace Rows
def none {H : Type} : Left H := { results := [], args := [] }

/-- 'burinlaw07.MendPlates': WHATEVER THE INPUT: true; the input reads as it did. -/
def mendPlatesSpec : ChangeSpec := { name := "mendPlates", fn := fun _ => fun
  | [d1, d2, d3] => { results := [.lit (.bool true)], args := [d1, d2, d3] }
  | _ => none }
def mendPlatesRow : OpenClaim := { program := "ytbjmfhlkmklmmaa", sum := "a9c735cb239af055e2b57225ed00ed70253453f515f628cccb47633b5b4102bc", func := "burin/burinlaw07.MendPlates", spec := "mendPlates", unfollowed := true, recurses := true, plainKeys := false, apart := false }
def MendPlatesSaid : Prop := mendPlatesRow.holds Try.pinned (OpenSpec.ofChange mendPlatesSpec)

/-- ITS FALSE NEIGHBOUR: 'it returns false'. Refute it at one input. -/
def mendPlatesWrong : ChangeSpec := { name := "mendPlates", fn := fun _ => fun
  | [d1, d2, d3] => { results := [.lit (.bool false)], args := [d1, d2, d3] }
  | _ => none }
def MendPlatesWrongFalsely : Prop := mendPlatesRow.holds Try.pinned (OpenSpec.ofChange mendPlatesWrong)

/-- 'burinlaw07.MendFlats': WHATEVER THE INPUT: true; the input reads as it did. -/
def mendFlatsSpec : ChangeSpec := { name := "mendFlats", fn := fun _ => fun
  | [d] => { results := [.lit (.bool true)], args := [d] }
  | _ => none }
def mendFlatsRow : OpenClaim := { program := "ytbjmfhlkmklmmaa", sum := "a9c735cb239af055e2b57225ed00ed70253453f515f628cccb47633b5b4102bc", func := "burin/burinlaw07.MendFlats", spec := "mendFlats", unfollowed := true, recurses := true, plainKeys := false, apart := false }
def MendFlatsSaid : Prop := mendFlatsRow.holds Try.pinned (OpenSpec.ofChange mendFlatsSpec)

/-- ITS FALSE NEIGHBOUR: 'it returns false'. Refute it at one input. -/
def mendFlatsWrong : ChangeSpec := { name := "mendFlats", fn := fun _ => fun
  | [d] => { results := [.lit (.bool false)], args := [d] }
  | _ => none }
def MendFlatsWrongFalsely : Prop := mendFlatsRow.holds Try.pinned (OpenSpec.ofChange mendFlatsWrong)

/-- 'burinlaw07.MendBurns': WHATEVER THE INPUT: true; the input reads as it did. -/
def mendBurnsSpec : ChangeSpec := { name := "mendBurns", fn := fun _ => fun
  | [d] => { results := [.lit (.bool true)], args := [d] }
  | _ => none }
def mendBurnsRow : OpenClaim := { program := "ytbjmfhlkmklmmaa", sum := "a9c735cb239af055e2b57225ed00ed70253453f515f628cccb47633b5b4102bc", func := "burin/burinlaw07.MendBurns", spec := "mendBurns", unfollowed := true, recurses := true, plainKeys := false, apart := false }
def MendBurnsSaid : Prop := mendBurnsRow.holds Try.pinned (OpenSpec.ofChange mendBurnsSpec)

/-- ITS FALSE NEIGHBOUR: 'it returns false'. Refute it at one input. -/
def mendBurnsWrong : ChangeSpec := { name := "mendBurns", fn := fun _ => fun
  | [d] => { results := [.lit (.bool false)], args := [d] }
  | _ => none }
def MendBurnsWrongFalsely : Prop := mendBurnsRow.holds Try.pinned (OpenSpec.ofChange mendBurnsWrong)

/-- 'burinlaw07.MendUpons': WHATEVER THE INPUT: true; the input reads as it did. -/
def mendUponsSpec : ChangeSpec := { name := "mendUpons", fn := fun _ => fun
  | [d1, d2, d3, d4] => { results := [.lit (.bool true)], args := [d1, d2, d3, d4] }
  | _ => none }
def mendUponsRow : OpenClaim := { program := "ytbjmfhlkmklmmaa", sum := "a9c735cb239af055e2b57225ed00ed70253453f515f628cccb47633b5b4102bc", func := "burin/burinlaw07.MendUpons", spec := "mendUpons", unfollowed := true, recurses := true, plainKeys := false, apart := false }
def MendUponsSaid : Prop := mendUponsRow.holds Try.pinned (OpenSpec.ofChange mendUponsSpec)

/-- ITS FALSE NEIGHBOUR: 'it returns false'. Refute it at one input. -/
def mendUponsWrong : ChangeSpec := { name := "mendUpons", fn := fun _ => fun
  | [d1, d2, d3, d4] => { results := [.lit (.bool false)], args := [d1, d2, d3, d4] }
  | _ => none }
def MendUponsWrongFalsely : Prop := mendUponsRow.holds Try.pinned (OpenSpec.ofChange mendUponsWrong)

/-- 'burinlaw07.MendSame': WHATEVER THE INPUT: true; the input reads as it did. -/
def mendSameSpec : ChangeSpec := { name := "mendSame", fn := fun _ => fun
  | [d1, d2] => { results := [.lit (.bool true)], args := [d1, d2] }
  | _ => none }
def mendSameRow : OpenClaim := { program := "ytbjmfhlkmklmmaa", sum := "a9c735cb239af055e2b57225ed00ed70253453f515f628cccb47633b5b4102bc", func := "burin/burinlaw07.MendSame", spec := "mendSame", unfollowed := true, recurses := true, plainKeys := false, apart := false }
def MendSameSaid : Prop := mendSameRow.holds Try.pinned (OpenSpec.ofChange mendSameSpec)

/-- ITS FALSE NEIGHBOUR: 'it returns false'. Refute it at one input. -/
def mendSameWrong : ChangeSpec := { name := "mendSame", fn := fun _ => fun
  | [d1, d2] => { results := [.lit (.bool false)], args := [d1, d2] }
  | _ => none }
def MendSameWrongFalsely : Prop := mendSameRow.holds Try.pinned (OpenSpec.ofChange mendSameWrong)

/-- 'burinlaw07.MendLeast': WHATEVER THE INPUT: true; the input reads as it did. -/
def mendLeastSpec : ChangeSpec := { name := "mendLeast", fn := fun _ => fun
  | [d1, d2, d3] => { results := [.lit (.bool true)], args := [d1, d2, d3] }
  | _ => none }
def mendLeastRow : OpenClaim := { program := "ytbjmfhlkmklmmaa", sum := "a9c735cb239af055e2b57225ed00ed70253453f515f628cccb47633b5b4102bc", func := "burin/burinlaw07.MendLeast", spec := "mendLeast", unfollowed := true, recurses := true, plainKeys := false, apart := false }
def MendLeastSaid : Prop := mendLeastRow.holds Try.pinned (OpenSpec.ofChange mendLeastSpec)

/-- ITS FALSE NEIGHBOUR: 'it returns false'. Refute it at one input. -/
def mendLeastWrong : ChangeSpec := { name := "mendLeast", fn := fun _ => fun
  | [d1, d2, d3] => { results := [.lit (.bool false)], args := [d1, d2, d3] }
  | _ => none }
def MendLeastWrongFalsely : Prop := mendLeastRow.holds Try.pinned (OpenSpec.ofChange mendLeastWrong)

/-- 'burinlaw07.MendLost': WHATEVER THE INPUT: true; the input reads as it did. -/
def mendLostSpec : ChangeSpec := { name := "mendLost", fn := fun _ => fun
  | [d] => { results := [.lit (.bool true)], args := [d] }
  | _ => none }
def mendLostRow : OpenClaim := { program := "ytbjmfhlkmklmmaa", sum := "a9c735cb239af055e2b57225ed00ed70253453f515f628cccb47633b5b4102bc", func := "burin/burinlaw07.MendLost", spec := "mendLost", unfollowed := true, recurses := true, plainKeys := false, apart := false }
def MendLostSaid : Prop := mendLostRow.holds Try.pinned (OpenSpec.ofChange mendLostSpec)

/-- ITS FALSE NEIGHBOUR: 'it returns false'. Refute it at one input. -/
def mendLostWrong : ChangeSpec := { name := "mendLost", fn := fun _ => fun
  | [d] => { results := [.lit (.bool false)], args := [d] }
  | _ => none }
def MendLostWrongFalsely : Prop := mendLostRow.holds Try.pinned (OpenSpec.ofChange mendLostWrong)

/-- 'burinlaw07.MendUpon': WHATEVER THE INPUT: true; the input reads as it did. -/
def mendUponSpec : ChangeSpec := { name := "mendUpon", fn := fun _ => fun
  | [d1, d2, d3] => { results := [.lit (.bool true)], args := [d1, d2, d3] }
  | _ => none }
def mendUponRow : OpenClaim := { program := "ytbjmfhlkmklmmaa", sum := "a9c735cb239af055e2b57225ed00ed70253453f515f628cccb47633b5b4102bc", func := "burin/burinlaw07.MendUpon", spec := "mendUpon", unfollowed := true, recurses := true, plainKeys := false, apart := false }
def MendUponSaid : Prop := mendUponRow.holds Try.pinned (OpenSpec.ofChange mendUponSpec)

/-- ITS FALSE NEIGHBOUR: 'it returns false'. Refute it at one input. -/
def mendUponWrong : ChangeSpec := { name := "mendUpon", fn := fun _ => fun
  | [d1, d2, d3] => { results := [.lit (.bool false)], args := [d1, d2, d3] }
  | _ => none }
def MendUponWrongFalsely : Prop := mendUponRow.holds Try.pinned (OpenSpec.ofChange mendUponWrong)

/-- 'burinlaw07.MendBack': WHATEVER THE INPUT: true; the input reads as it did. -/
def mendBackSpec : ChangeSpec := { name := "mendBack", fn := fun _ => fun
  | [d1, d2] => { results := [.lit (.bool true)], args := [d1, d2] }
  | _ => none }
def mendBackRow : OpenClaim := { program := "ytbjmfhlkmklmmaa", sum := "a9c735cb239af055e2b57225ed00ed70253453f515f628cccb47633b5b4102bc", func := "burin/burinlaw07.MendBack", spec := "mendBack", unfollowed := true, recurses := true, plainKeys := false, apart := false }
def MendBackSaid : Prop := mendBackRow.holds Try.pinned (OpenSpec.ofChange mendBackSpec)

/-- ITS FALSE NEIGHBOUR: 'it returns false'. Refute it at one input. -/
def mendBackWrong : ChangeSpec := { name := "mendBack", fn := fun _ => fun
  | [d1, d2] => { results := [.lit (.bool false)], args := [d1, d2] }
  | _ => none }
def MendBackWrongFalsely : Prop := mendBackRow.holds Try.pinned (OpenSpec.ofChange mendBackWrong)

/-- 'burinlaw07.MendNeutral': WHATEVER THE INPUT: true; the input reads as it did. -/
def mendNeutralSpec : ChangeSpec := { name := "mendNeutral", fn := fun _ => fun
  | [d] => { results := [.lit (.bool true)], args := [d] }
  | _ => none }
def mendNeutralRow : OpenClaim := { program := "ytbjmfhlkmklmmaa", sum := "a9c735cb239af055e2b57225ed00ed70253453f515f628cccb47633b5b4102bc", func := "burin/burinlaw07.MendNeutral", spec := "mendNeutral", unfollowed := true, recurses := true, plainKeys := false, apart := false }
def MendNeutralSaid : Prop := mendNeutralRow.holds Try.pinned (OpenSpec.ofChange mendNeutralSpec)

/-- ITS FALSE NEIGHBOUR: 'it returns false'. Refute it at one input. -/
def mendNeutralWrong : ChangeSpec := { name := "mendNeutral", fn := fun _ => fun
  | [d] => { results := [.lit (.bool false)], args := [d] }
  | _ => none }
def MendNeutralWrongFalsely : Prop := mendNeutralRow.holds Try.pinned (OpenSpec.ofChange mendNeutralWrong)

/-- 'burinlaw07.MendTurned': WHATEVER THE INPUT: true; the input reads as it did. -/
def mendTurnedSpec : ChangeSpec := { name := "mendTurned", fn := fun _ => fun
  | [d1, d2, d3, d4] => { results := [.lit (.bool true)], args := [d1, d2, d3, d4] }
  | _ => none }
def mendTurnedRow : OpenClaim := { program := "ytbjmfhlkmklmmaa", sum := "a9c735cb239af055e2b57225ed00ed70253453f515f628cccb47633b5b4102bc", func := "burin/burinlaw07.MendTurned", spec := "mendTurned", unfollowed := true, recurses := true, plainKeys := false, apart := false }
def MendTurnedSaid : Prop := mendTurnedRow.holds Try.pinned (OpenSpec.ofChange mendTurnedSpec)

/-- ITS FALSE NEIGHBOUR: 'it returns false'. Refute it at one input. -/
def mendTurnedWrong : ChangeSpec := { name := "mendTurned", fn := fun _ => fun
  | [d1, d2, d3, d4] => { results := [.lit (.bool false)], args := [d1, d2, d3, d4] }
  | _ => none }
def MendTurnedWrongFalsely : Prop := mendTurnedRow.holds Try.pinned (OpenSpec.ofChange mendTurnedWrong)

/-- 'burinlaw07.MendMore': WHATEVER THE INPUT: true; the input reads as it did. -/
def mendMoreSpec : ChangeSpec := { name := "mendMore", fn := fun _ => fun
  | [d1, d2, d3] => { results := [.lit (.bool true)], args := [d1, d2, d3] }
  | _ => none }
def mendMoreRow : OpenClaim := { program := "ytbjmfhlkmklmmaa", sum := "a9c735cb239af055e2b57225ed00ed70253453f515f628cccb47633b5b4102bc", func := "burin/burinlaw07.MendMore", spec := "mendMore", unfollowed := true, recurses := true, plainKeys := false, apart := false }
def MendMoreSaid : Prop := mendMoreRow.holds Try.pinned (OpenSpec.ofChange mendMoreSpec)

/-- ITS FALSE NEIGHBOUR: 'it returns false'. Refute it at one input. -/
def mendMoreWrong : ChangeSpec := { name := "mendMore", fn := fun _ => fun
  | [d1, d2, d3] => { results := [.lit (.bool false)], args := [d1, d2, d3] }
  | _ => none }
def MendMoreWrongFalsely : Prop := mendMoreRow.holds Try.pinned (OpenSpec.ofChange mendMoreWrong)

/-- 'burinlaw07.MendBlow': WHATEVER THE INPUT: true; the input reads as it did. -/
def mendBlowSpec : ChangeSpec := { name := "mendBlow", fn := fun _ => fun
  | [d1, d2] => { results := [.lit (.bool true)], args := [d1, d2] }
  | _ => none }
def mendBlowRow : OpenClaim := { program := "ytbjmfhlkmklmmaa", sum := "a9c735cb239af055e2b57225ed00ed70253453f515f628cccb47633b5b4102bc", func := "burin/burinlaw07.MendBlow", spec := "mendBlow", unfollowed := true, recurses := true, plainKeys := false, apart := false }
def MendBlowSaid : Prop := mendBlowRow.holds Try.pinned (OpenSpec.ofChange mendBlowSpec)

/-- ITS FALSE NEIGHBOUR: 'it returns false'. Refute it at one input. -/
def mendBlowWrong : ChangeSpec := { name := "mendBlow", fn := fun _ => fun
  | [d1, d2] => { results := [.lit (.bool false)], args := [d1, d2] }
  | _ => none }
def MendBlowWrongFalsely : Prop := mendBlowRow.holds Try.pinned (OpenSpec.ofChange mendBlowWrong)

/-- 'burinlaw07.MendCounted': WHATEVER THE INPUT: true; the input reads as it did. -/
def mendCountedSpec : ChangeSpec := { name := "mendCounted", fn := fun _ => fun
  | [d1, d2] => { results := [.lit (.bool true)], args := [d1, d2] }
  | _ => none }
def mendCountedRow : OpenClaim := { program := "ytbjmfhlkmklmmaa", sum := "a9c735cb239af055e2b57225ed00ed70253453f515f628cccb47633b5b4102bc", func := "burin/burinlaw07.MendCounted", spec := "mendCounted", unfollowed := true, recurses := true, plainKeys := false, apart := false }
def MendCountedSaid : Prop := mendCountedRow.holds Try.pinned (OpenSpec.ofChange mendCountedSpec)

/-- ITS FALSE NEIGHBOUR: 'it returns false'. Refute it at one input. -/
def mendCountedWrong : ChangeSpec := { name := "mendCounted", fn := fun _ => fun
  | [d1, d2] => { results := [.lit (.bool false)], args := [d1, d2] }
  | _ => none }
def MendCountedWrongFalsely : Prop := mendCountedRow.holds Try.pinned (OpenSpec.ofChange mendCountedWrong)

/-- 'burinlaw07.MendKnown': WHATEVER THE INPUT: true; the input reads as it did. -/
def mendKnownSpec : ChangeSpec := { name := "mendKnown", fn := fun _ => fun
  | [] => { results := [.lit (.bool true)], args := [] }
  | _ => none }
def mendKnownRow : OpenClaim := { program := "ytbjmfhlkmklmmaa", sum := "a9c735cb239af055e2b57225ed00ed70253453f515f628cccb47633b5b4102bc", func := "burin/burinlaw07.MendKnown", spec := "mendKnown", unfollowed := true, recurses := true, plainKeys := false, apart := false }
def MendKnownSaid : Prop := mendKnownRow.holds Try.pinned (OpenSpec.ofChange mendKnownSpec)

/-- ITS FALSE NEIGHBOUR: 'it returns false'. Refute it at one input. -/
def mendKnownWrong : ChangeSpec := { name := "mendKnown", fn := fun _ => fun
  | [] => { results := [.lit (.bool false)], args := [] }
  | _ => none }
def MendKnownWrongFalsely : Prop := mendKnownRow.holds Try.pinned (OpenSpec.ofChange mendKnownWrong)

/- THE SECOND FORM. 'bulk': how many values and letters a reading holds, each counted each time it is reached (what is shared counts as often as it is met; a slice's spare places count too). A statement '..UptoSaid' is the law's where the arguments, and the package variables that the reading takes, are together of bulk at most 1048576: NARROWER than '..Said'. Prove '..Said' where nothing that the law and all that it calls make is longer than what came in: it says more and counts as full. Else prove '..UptoSaid'. A law counts once. -/
mutual
def uptoBulk {H : Type} : DataW H → Nat
  | .lit (.string bytes) => bytes.length + 1
  | .lit _ => 1
  | .nil => 1
  | .ptr d => uptoBulk d + 1
  | .slice elems spare => uptoBulkAll elems + uptoBulkAll spare + 1
  | .agg parts => uptoBulkAll parts + 1
  | .iface _ d => uptoBulk d + 1
  | .map entries => uptoBulkEntries entries + 1
  | .held _ => 1
def uptoBulkAll {H : Type} : List (DataW H) → Nat
  | [] => 0
  | d :: r => uptoBulk d + uptoBulkAll r
def uptoBulkEntries {H : Type} : List (Lit × DataW H) → Nat
  | [] => 0
  | x :: r => uptoBulkEntry x + uptoBulkEntries r
def uptoBulkEntry {H : Type} : Lit × DataW H → Nat
  | (.string bytes, d) => bytes.length + uptoBulk d + 1
  | (_, d) => uptoBulk d + 1
 end
def uptoSmall : (H : Type) → List (DataW H) → Bool := fun _ ds => decide (uptoBulkAll ds ≤ 1048576)
def OpenSpec.upto (s : _root_.Go.ChangeSpec) : _root_.Go.OpenSpec := { _root_.Go.OpenSpec.ofChange s with cond := some uptoSmall }

/-- 'burinlaw07.MendPlates', WHERE WHAT IT READS IS OF BULK AT MOST 1048576: true; the input reads as it did. -/
def mendPlatesUptoRow : OpenClaim := { program := "ytbjmfhlkmklmmaa", sum := "a9c735cb239af055e2b57225ed00ed70253453f515f628cccb47633b5b4102bc", func := "burin/burinlaw07.MendPlates", spec := "mendPlates", unfollowed := true, recurses := true, plainKeys := false, apart := false, narrowed := true }
def MendPlatesUptoSaid : Prop := mendPlatesUptoRow.holds Try.pinned (OpenSpec.upto mendPlatesSpec)

/-- 'burinlaw07.MendFlats', WHERE WHAT IT READS IS OF BULK AT MOST 1048576: true; the input reads as it did. -/
def mendFlatsUptoRow : OpenClaim := { program := "ytbjmfhlkmklmmaa", sum := "a9c735cb239af055e2b57225ed00ed70253453f515f628cccb47633b5b4102bc", func := "burin/burinlaw07.MendFlats", spec := "mendFlats", unfollowed := true, recurses := true, plainKeys := false, apart := false, narrowed := true }
def MendFlatsUptoSaid : Prop := mendFlatsUptoRow.holds Try.pinned (OpenSpec.upto mendFlatsSpec)

/-- 'burinlaw07.MendBurns', WHERE WHAT IT READS IS OF BULK AT MOST 1048576: true; the input reads as it did. -/
def mendBurnsUptoRow : OpenClaim := { program := "ytbjmfhlkmklmmaa", sum := "a9c735cb239af055e2b57225ed00ed70253453f515f628cccb47633b5b4102bc", func := "burin/burinlaw07.MendBurns", spec := "mendBurns", unfollowed := true, recurses := true, plainKeys := false, apart := false, narrowed := true }
def MendBurnsUptoSaid : Prop := mendBurnsUptoRow.holds Try.pinned (OpenSpec.upto mendBurnsSpec)

/-- 'burinlaw07.MendUpons', WHERE WHAT IT READS IS OF BULK AT MOST 1048576: true; the input reads as it did. -/
def mendUponsUptoRow : OpenClaim := { program := "ytbjmfhlkmklmmaa", sum := "a9c735cb239af055e2b57225ed00ed70253453f515f628cccb47633b5b4102bc", func := "burin/burinlaw07.MendUpons", spec := "mendUpons", unfollowed := true, recurses := true, plainKeys := false, apart := false, narrowed := true }
def MendUponsUptoSaid : Prop := mendUponsUptoRow.holds Try.pinned (OpenSpec.upto mendUponsSpec)

/-- 'burinlaw07.MendSame', WHERE WHAT IT READS IS OF BULK AT MOST 1048576: true; the input reads as it did. -/
def mendSameUptoRow : OpenClaim := { program := "ytbjmfhlkmklmmaa", sum := "a9c735cb239af055e2b57225ed00ed70253453f515f628cccb47633b5b4102bc", func := "burin/burinlaw07.MendSame", spec := "mendSame", unfollowed := true, recurses := true, plainKeys := false, apart := false, narrowed := true }
def MendSameUptoSaid : Prop := mendSameUptoRow.holds Try.pinned (OpenSpec.upto mendSameSpec)

/-- 'burinlaw07.MendLeast', WHERE WHAT IT READS IS OF BULK AT MOST 1048576: true; the input reads as it did. -/
def mendLeastUptoRow : OpenClaim := { program := "ytbjmfhlkmklmmaa", sum := "a9c735cb239af055e2b57225ed00ed70253453f515f628cccb47633b5b4102bc", func := "burin/burinlaw07.MendLeast", spec := "mendLeast", unfollowed := true, recurses := true, plainKeys := false, apart := false, narrowed := true }
def MendLeastUptoSaid : Prop := mendLeastUptoRow.holds Try.pinned (OpenSpec.upto mendLeastSpec)

/-- 'burinlaw07.MendLost', WHERE WHAT IT READS IS OF BULK AT MOST 1048576: true; the input reads as it did. -/
def mendLostUptoRow : OpenClaim := { program := "ytbjmfhlkmklmmaa", sum := "a9c735cb239af055e2b57225ed00ed70253453f515f628cccb47633b5b4102bc", func := "burin/burinlaw07.MendLost", spec := "mendLost", unfollowed := true, recurses := true, plainKeys := false, apart := false, narrowed := true }
def MendLostUptoSaid : Prop := mendLostUptoRow.holds Try.pinned (OpenSpec.upto mendLostSpec)

/-- 'burinlaw07.MendUpon', WHERE WHAT IT READS IS OF BULK AT MOST 1048576: true; the input reads as it did. -/
def mendUponUptoRow : OpenClaim := { program := "ytbjmfhlkmklmmaa", sum := "a9c735cb239af055e2b57225ed00ed70253453f515f628cccb47633b5b4102bc", func := "burin/burinlaw07.MendUpon", spec := "mendUpon", unfollowed := true, recurses := true, plainKeys := false, apart := false, narrowed := true }
def MendUponUptoSaid : Prop := mendUponUptoRow.holds Try.pinned (OpenSpec.upto mendUponSpec)

/-- 'burinlaw07.MendBack', WHERE WHAT IT READS IS OF BULK AT MOST 1048576: true; the input reads as it did. -/
def mendBackUptoRow : OpenClaim := { program := "ytbjmfhlkmklmmaa", sum := "a9c735cb239af055e2b57225ed00ed70253453f515f628cccb47633b5b4102bc", func := "burin/burinlaw07.MendBack", spec := "mendBack", unfollowed := true, recurses := true, plainKeys := false, apart := false, narrowed := true }
def MendBackUptoSaid : Prop := mendBackUptoRow.holds Try.pinned (OpenSpec.upto mendBackSpec)

/-- 'burinlaw07.MendNeutral', WHERE WHAT IT READS IS OF BULK AT MOST 1048576: true; the input reads as it did. -/
def mendNeutralUptoRow : OpenClaim := { program := "ytbjmfhlkmklmmaa", sum := "a9c735cb239af055e2b57225ed00ed70253453f515f628cccb47633b5b4102bc", func := "burin/burinlaw07.MendNeutral", spec := "mendNeutral", unfollowed := true, recurses := true, plainKeys := false, apart := false, narrowed := true }
def MendNeutralUptoSaid : Prop := mendNeutralUptoRow.holds Try.pinned (OpenSpec.upto mendNeutralSpec)

/-- 'burinlaw07.MendTurned', WHERE WHAT IT READS IS OF BULK AT MOST 1048576: true; the input reads as it did. -/
def mendTurnedUptoRow : OpenClaim := { program := "ytbjmfhlkmklmmaa", sum := "a9c735cb239af055e2b57225ed00ed70253453f515f628cccb47633b5b4102bc", func := "burin/burinlaw07.MendTurned", spec := "mendTurned", unfollowed := true, recurses := true, plainKeys := false, apart := false, narrowed := true }
def MendTurnedUptoSaid : Prop := mendTurnedUptoRow.holds Try.pinned (OpenSpec.upto mendTurnedSpec)

/-- 'burinlaw07.MendMore', WHERE WHAT IT READS IS OF BULK AT MOST 1048576: true; the input reads as it did. -/
def mendMoreUptoRow : OpenClaim := { program := "ytbjmfhlkmklmmaa", sum := "a9c735cb239af055e2b57225ed00ed70253453f515f628cccb47633b5b4102bc", func := "burin/burinlaw07.MendMore", spec := "mendMore", unfollowed := true, recurses := true, plainKeys := false, apart := false, narrowed := true }
def MendMoreUptoSaid : Prop := mendMoreUptoRow.holds Try.pinned (OpenSpec.upto mendMoreSpec)

/-- 'burinlaw07.MendBlow', WHERE WHAT IT READS IS OF BULK AT MOST 1048576: true; the input reads as it did. -/
def mendBlowUptoRow : OpenClaim := { program := "ytbjmfhlkmklmmaa", sum := "a9c735cb239af055e2b57225ed00ed70253453f515f628cccb47633b5b4102bc", func := "burin/burinlaw07.MendBlow", spec := "mendBlow", unfollowed := true, recurses := true, plainKeys := false, apart := false, narrowed := true }
def MendBlowUptoSaid : Prop := mendBlowUptoRow.holds Try.pinned (OpenSpec.upto mendBlowSpec)

/-- 'burinlaw07.MendCounted', WHERE WHAT IT READS IS OF BULK AT MOST 1048576: true; the input reads as it did. -/
def mendCountedUptoRow : OpenClaim := { program := "ytbjmfhlkmklmmaa", sum := "a9c735cb239af055e2b57225ed00ed70253453f515f628cccb47633b5b4102bc", func := "burin/burinlaw07.MendCounted", spec := "mendCounted", unfollowed := true, recurses := true, plainKeys := false, apart := false, narrowed := true }
def MendCountedUptoSaid : Prop := mendCountedUptoRow.holds Try.pinned (OpenSpec.upto mendCountedSpec)

/-- 'burinlaw07.MendKnown', WHERE WHAT IT READS IS OF BULK AT MOST 1048576: true; the input reads as it did. -/
def mendKnownUptoRow : OpenClaim := { program := "ytbjmfhlkmklmmaa", sum := "a9c735cb239af055e2b57225ed00ed70253453f515f628cccb47633b5b4102bc", func := "burin/burinlaw07.MendKnown", spec := "mendKnown", unfollowed := true, recurses := true, plainKeys := false, apart := false, narrowed := true }
def MendKnownUptoSaid : Prop := mendKnownUptoRow.holds Try.pinned (OpenSpec.upto mendKnownSpec)

end Rows
end Go.Proofs.Ytbjmfhlkmklmmaa
