/-
  No cell of these rows narrows 'for every input' (looked for: loops, veiled, ifaces, maps, wideKeys, modest, calm, conditions, laid).
  DERIVED. THE GIVEN ROWS OF THIS SEAT. 12 by the template 'for every input the law returns true; each argument reads behind the call as it read before'; 0 by the template 'total and deterministic' (their statements: YtiidkehcfoajeaaTotals.lean).
  GIVEN WITH THE SEED: the statements are not yours to turn. If you find one false, say at which input.
  Laid BY PROGRAM, IN A SANDBOX (cutbox-rows.mjs): the forced cells as the released guide's own fill.sh prints them over the translation 0cb80f113f2da885… (all of the seat's roots in one cut). By AI agents, Wed Nov 11 2026. No macro, syntax, notation, axiom, sorry.
-/
import Derived.Test.YtiidkehcfoajeaaChecked
import GoSem.Claim
import GoSem.ClaimJoined
import GoSem.ClaimMapViews
import Derived.JoinedTies
import Derived.KernelRfl
namespace Go.Proofs.Ytiidkehcfoajeaa
/- THE CELL 'sum', in the pinned program and in every row, IS THE sha256 OF THE DUMP (.gsa) THAT YtiidkehcfoajeaaProg.lean LOADS. Nothing in Lean hashes anything: it is a label: what it is worth is what the hold of that sum in a sandbox is worth. -/
noncomputable def Try.pinned : Pinned := { name := "ytiidkehcfoajeaa", sum := "0cb80f113f2da885136d2f0e56cf233e741aad03aa47cf4c16ed9cba66f687fd", checked := Try.checked }
namespace Rows
def none {H : Type} : Left H := { results := [], args := [] }

/-- 'drumlinlaw22.KeydirNil': WHATEVER THE INPUT: true; the input reads as it did. -/
def keydirNilSpec : ChangeSpec := { name := "keydirNil", fn := fun _ => fun
  | [d1, d2] => { results := [.lit (.bool true)], args := [d1, d2] }
  | _ => none }
def keydirNilRow : OpenClaim := { program := "ytiidkehcfoajeaa", sum := "0cb80f113f2da885136d2f0e56cf233e741aad03aa47cf4c16ed9cba66f687fd", func := "drumlin/drumlinlaw22.KeydirNil", spec := "keydirNil", inPlace := ["internal/bytealg.IndexByteString", "internal/bytealg.IndexString", "slices.overlaps[drumlin/api.Entry]", "slices.overlaps[drumlin/ordmap.item[string, drumlin/index.list]]"], unfollowed := true, recurses := true, named := ["internal/bytealg.MaxLen"], apart := false }
def KeydirNilSaid : Prop := keydirNilRow.holds Try.pinned (OpenSpec.ofChange keydirNilSpec)

/-- ITS FALSE NEIGHBOUR: 'it returns false'. Refute it at one input. -/
def keydirNilWrong : ChangeSpec := { name := "keydirNil", fn := fun _ => fun
  | [d1, d2] => { results := [.lit (.bool false)], args := [d1, d2] }
  | _ => none }
def KeydirNilWrongFalsely : Prop := keydirNilRow.holds Try.pinned (OpenSpec.ofChange keydirNilWrong)

/-- 'drumlinlaw23.LedgerAges': WHATEVER THE INPUT: true; the input reads as it did. -/
def ledgerAgesSpec : ChangeSpec := { name := "ledgerAges", fn := fun _ => fun
  | [d1, d2] => { results := [.lit (.bool true)], args := [d1, d2] }
  | _ => none }
def ledgerAgesRow : OpenClaim := { program := "ytiidkehcfoajeaa", sum := "0cb80f113f2da885136d2f0e56cf233e741aad03aa47cf4c16ed9cba66f687fd", func := "drumlin/drumlinlaw23.LedgerAges", spec := "ledgerAges", inPlace := ["internal/bytealg.IndexByteString", "internal/bytealg.IndexString", "slices.overlaps[drumlin/api.Entry]", "slices.overlaps[drumlin/ordmap.item[string, drumlin/index.list]]"], unfollowed := true, recurses := true, named := ["internal/bytealg.MaxLen"], apart := false }
def LedgerAgesSaid : Prop := ledgerAgesRow.holds Try.pinned (OpenSpec.ofChange ledgerAgesSpec)

/-- ITS FALSE NEIGHBOUR: 'it returns false'. Refute it at one input. -/
def ledgerAgesWrong : ChangeSpec := { name := "ledgerAges", fn := fun _ => fun
  | [d1, d2] => { results := [.lit (.bool false)], args := [d1, d2] }
  | _ => none }
def LedgerAgesWrongFalsely : Prop := ledgerAgesRow.holds Try.pinned (OpenSpec.ofChange ledgerAgesWrong)

/-- 'drumlinlaw23.LedgerNil': WHATEVER THE INPUT: true; the input reads as it did. -/
def ledgerNilSpec : ChangeSpec := { name := "ledgerNil", fn := fun _ => fun
  | [d] => { results := [.lit (.bool true)], args := [d] }
  | _ => none }
def ledgerNilRow : OpenClaim := { program := "ytiidkehcfoajeaa", sum := "0cb80f113f2da885136d2f0e56cf233e741aad03aa47cf4c16ed9cba66f687fd", func := "drumlin/drumlinlaw23.LedgerNil", spec := "ledgerNil", inPlace := ["internal/bytealg.IndexByteString", "internal/bytealg.IndexString", "slices.overlaps[drumlin/api.Entry]", "slices.overlaps[drumlin/ordmap.item[string, drumlin/index.list]]"], unfollowed := true, recurses := true, named := ["internal/bytealg.MaxLen"], apart := false }
def LedgerNilSaid : Prop := ledgerNilRow.holds Try.pinned (OpenSpec.ofChange ledgerNilSpec)

/-- ITS FALSE NEIGHBOUR: 'it returns false'. Refute it at one input. -/
def ledgerNilWrong : ChangeSpec := { name := "ledgerNil", fn := fun _ => fun
  | [d] => { results := [.lit (.bool false)], args := [d] }
  | _ => none }
def LedgerNilWrongFalsely : Prop := ledgerNilRow.holds Try.pinned (OpenSpec.ofChange ledgerNilWrong)

/-- 'drumlinlaw23.LedgerRefuses': WHATEVER THE INPUT: true; the input reads as it did. -/
def ledgerRefusesSpec : ChangeSpec := { name := "ledgerRefuses", fn := fun _ => fun
  | [d1, d2, d3, d4, d5, d6] => { results := [.lit (.bool true)], args := [d1, d2, d3, d4, d5, d6] }
  | _ => none }
def ledgerRefusesRow : OpenClaim := { program := "ytiidkehcfoajeaa", sum := "0cb80f113f2da885136d2f0e56cf233e741aad03aa47cf4c16ed9cba66f687fd", func := "drumlin/drumlinlaw23.LedgerRefuses", spec := "ledgerRefuses", inPlace := ["internal/bytealg.IndexByteString", "internal/bytealg.IndexString", "slices.overlaps[drumlin/api.Entry]", "slices.overlaps[drumlin/ordmap.item[string, drumlin/index.list]]"], unfollowed := true, recurses := true, named := ["internal/bytealg.MaxLen"], apart := false }
def LedgerRefusesSaid : Prop := ledgerRefusesRow.holds Try.pinned (OpenSpec.ofChange ledgerRefusesSpec)

/-- ITS FALSE NEIGHBOUR: 'it returns false'. Refute it at one input. -/
def ledgerRefusesWrong : ChangeSpec := { name := "ledgerRefuses", fn := fun _ => fun
  | [d1, d2, d3, d4, d5, d6] => { results := [.lit (.bool false)], args := [d1, d2, d3, d4, d5, d6] }
  | _ => none }
def LedgerRefusesWrongFalsely : Prop := ledgerRefusesRow.holds Try.pinned (OpenSpec.ofChange ledgerRefusesWrong)

/-- 'drumlinlaw21.IndexBreaks': WHATEVER THE INPUT: true; the input reads as it did. -/
def indexBreaksSpec : ChangeSpec := { name := "indexBreaks", fn := fun _ => fun
  | [d1, d2] => { results := [.lit (.bool true)], args := [d1, d2] }
  | _ => none }
def indexBreaksRow : OpenClaim := { program := "ytiidkehcfoajeaa", sum := "0cb80f113f2da885136d2f0e56cf233e741aad03aa47cf4c16ed9cba66f687fd", func := "drumlin/drumlinlaw21.IndexBreaks", spec := "indexBreaks", inPlace := ["slices.overlaps[drumlin/ordmap.item[string, drumlin/index.list]]", "internal/bytealg.IndexByteString", "internal/bytealg.IndexString", "slices.overlaps[drumlin/api.Entry]"], unfollowed := true, recurses := true, named := ["internal/bytealg.MaxLen"], apart := false }
def IndexBreaksSaid : Prop := indexBreaksRow.holds Try.pinned (OpenSpec.ofChange indexBreaksSpec)

/-- ITS FALSE NEIGHBOUR: 'it returns false'. Refute it at one input. -/
def indexBreaksWrong : ChangeSpec := { name := "indexBreaks", fn := fun _ => fun
  | [d1, d2] => { results := [.lit (.bool false)], args := [d1, d2] }
  | _ => none }
def IndexBreaksWrongFalsely : Prop := indexBreaksRow.holds Try.pinned (OpenSpec.ofChange indexBreaksWrong)

/-- 'drumlinlaw21.IndexRefuses': WHATEVER THE INPUT: true; the input reads as it did. -/
def indexRefusesSpec : ChangeSpec := { name := "indexRefuses", fn := fun _ => fun
  | [d1, d2] => { results := [.lit (.bool true)], args := [d1, d2] }
  | _ => none }
def indexRefusesRow : OpenClaim := { program := "ytiidkehcfoajeaa", sum := "0cb80f113f2da885136d2f0e56cf233e741aad03aa47cf4c16ed9cba66f687fd", func := "drumlin/drumlinlaw21.IndexRefuses", spec := "indexRefuses", inPlace := ["slices.overlaps[drumlin/ordmap.item[string, drumlin/index.list]]", "internal/bytealg.IndexByteString", "internal/bytealg.IndexString", "slices.overlaps[drumlin/api.Entry]"], unfollowed := true, recurses := true, named := ["internal/bytealg.MaxLen"], apart := false }
def IndexRefusesSaid : Prop := indexRefusesRow.holds Try.pinned (OpenSpec.ofChange indexRefusesSpec)

/-- ITS FALSE NEIGHBOUR: 'it returns false'. Refute it at one input. -/
def indexRefusesWrong : ChangeSpec := { name := "indexRefuses", fn := fun _ => fun
  | [d1, d2] => { results := [.lit (.bool false)], args := [d1, d2] }
  | _ => none }
def IndexRefusesWrongFalsely : Prop := indexRefusesRow.holds Try.pinned (OpenSpec.ofChange indexRefusesWrong)

/-- 'drumlinlaw28.CursorNil': WHATEVER THE INPUT: true; the input reads as it did. -/
def cursorNilSpec : ChangeSpec := { name := "cursorNil", fn := fun _ => fun
  | [d] => { results := [.lit (.bool true)], args := [d] }
  | _ => none }
def cursorNilRow : OpenClaim := { program := "ytiidkehcfoajeaa", sum := "0cb80f113f2da885136d2f0e56cf233e741aad03aa47cf4c16ed9cba66f687fd", func := "drumlin/drumlinlaw28.CursorNil", spec := "cursorNil", inPlace := ["slices.overlaps[drumlin/ordmap.item[string, drumlin/index.list]]", "internal/bytealg.IndexByteString", "internal/bytealg.IndexString", "slices.overlaps[drumlin/api.Entry]"], unfollowed := true, recurses := true, named := ["internal/bytealg.MaxLen"], apart := false }
def CursorNilSaid : Prop := cursorNilRow.holds Try.pinned (OpenSpec.ofChange cursorNilSpec)

/-- ITS FALSE NEIGHBOUR: 'it returns false'. Refute it at one input. -/
def cursorNilWrong : ChangeSpec := { name := "cursorNil", fn := fun _ => fun
  | [d] => { results := [.lit (.bool false)], args := [d] }
  | _ => none }
def CursorNilWrongFalsely : Prop := cursorNilRow.holds Try.pinned (OpenSpec.ofChange cursorNilWrong)

/-- 'drumlinlaw21.IndexNil': WHATEVER THE INPUT: true; the input reads as it did. -/
def indexNilSpec : ChangeSpec := { name := "indexNil", fn := fun _ => fun
  | [d] => { results := [.lit (.bool true)], args := [d] }
  | _ => none }
def indexNilRow : OpenClaim := { program := "ytiidkehcfoajeaa", sum := "0cb80f113f2da885136d2f0e56cf233e741aad03aa47cf4c16ed9cba66f687fd", func := "drumlin/drumlinlaw21.IndexNil", spec := "indexNil", inPlace := ["internal/bytealg.IndexByteString", "internal/bytealg.IndexString", "slices.overlaps[drumlin/api.Entry]", "slices.overlaps[drumlin/ordmap.item[string, drumlin/index.list]]"], unfollowed := true, recurses := true, named := ["internal/bytealg.MaxLen"], apart := false }
def IndexNilSaid : Prop := indexNilRow.holds Try.pinned (OpenSpec.ofChange indexNilSpec)

/-- ITS FALSE NEIGHBOUR: 'it returns false'. Refute it at one input. -/
def indexNilWrong : ChangeSpec := { name := "indexNil", fn := fun _ => fun
  | [d] => { results := [.lit (.bool false)], args := [d] }
  | _ => none }
def IndexNilWrongFalsely : Prop := indexNilRow.holds Try.pinned (OpenSpec.ofChange indexNilWrong)

/-- 'drumlinlaw21.IndexApart': WHATEVER THE INPUT: true; the input reads as it did. -/
def indexApartSpec : ChangeSpec := { name := "indexApart", fn := fun _ => fun
  | [d1, d2] => { results := [.lit (.bool true)], args := [d1, d2] }
  | _ => none }
def indexApartRow : OpenClaim := { program := "ytiidkehcfoajeaa", sum := "0cb80f113f2da885136d2f0e56cf233e741aad03aa47cf4c16ed9cba66f687fd", func := "drumlin/drumlinlaw21.IndexApart", spec := "indexApart", inPlace := ["slices.overlaps[drumlin/ordmap.item[string, drumlin/index.list]]", "internal/bytealg.IndexByteString", "internal/bytealg.IndexString", "slices.overlaps[drumlin/api.Entry]"], unfollowed := true, recurses := true, named := ["internal/bytealg.MaxLen"], apart := false }
def IndexApartSaid : Prop := indexApartRow.holds Try.pinned (OpenSpec.ofChange indexApartSpec)

/-- ITS FALSE NEIGHBOUR: 'it returns false'. Refute it at one input. -/
def indexApartWrong : ChangeSpec := { name := "indexApart", fn := fun _ => fun
  | [d1, d2] => { results := [.lit (.bool false)], args := [d1, d2] }
  | _ => none }
def IndexApartWrongFalsely : Prop := indexApartRow.holds Try.pinned (OpenSpec.ofChange indexApartWrong)

/-- 'drumlinlaw24.LivenessNil': WHATEVER THE INPUT: true; the input reads as it did. -/
def livenessNilSpec : ChangeSpec := { name := "livenessNil", fn := fun _ => fun
  | [d1, d2] => { results := [.lit (.bool true)], args := [d1, d2] }
  | _ => none }
def livenessNilRow : OpenClaim := { program := "ytiidkehcfoajeaa", sum := "0cb80f113f2da885136d2f0e56cf233e741aad03aa47cf4c16ed9cba66f687fd", func := "drumlin/drumlinlaw24.LivenessNil", spec := "livenessNil", inPlace := ["slices.overlaps[drumlin/ordmap.item[string, drumlin/index.list]]", "internal/bytealg.IndexByteString", "internal/bytealg.IndexString", "slices.overlaps[drumlin/api.Entry]"], unfollowed := true, recurses := true, named := ["internal/bytealg.MaxLen"], apart := false }
def LivenessNilSaid : Prop := livenessNilRow.holds Try.pinned (OpenSpec.ofChange livenessNilSpec)

/-- ITS FALSE NEIGHBOUR: 'it returns false'. Refute it at one input. -/
def livenessNilWrong : ChangeSpec := { name := "livenessNil", fn := fun _ => fun
  | [d1, d2] => { results := [.lit (.bool false)], args := [d1, d2] }
  | _ => none }
def LivenessNilWrongFalsely : Prop := livenessNilRow.holds Try.pinned (OpenSpec.ofChange livenessNilWrong)

/-- 'drumlinlaw24.LivenessKnown': WHATEVER THE INPUT: true; the input reads as it did. -/
def livenessKnownSpec : ChangeSpec := { name := "livenessKnown", fn := fun _ => fun
  | [] => { results := [.lit (.bool true)], args := [] }
  | _ => none }
def livenessKnownRow : OpenClaim := { program := "ytiidkehcfoajeaa", sum := "0cb80f113f2da885136d2f0e56cf233e741aad03aa47cf4c16ed9cba66f687fd", func := "drumlin/drumlinlaw24.LivenessKnown", spec := "livenessKnown", inPlace := ["internal/bytealg.IndexByteString", "internal/bytealg.IndexString", "slices.overlaps[drumlin/api.Entry]", "slices.overlaps[drumlin/ordmap.item[string, drumlin/index.list]]"], unfollowed := true, recurses := true, named := ["internal/bytealg.MaxLen"], apart := false }
def LivenessKnownSaid : Prop := livenessKnownRow.holds Try.pinned (OpenSpec.ofChange livenessKnownSpec)

/-- ITS FALSE NEIGHBOUR: 'it returns false'. Refute it at one input. -/
def livenessKnownWrong : ChangeSpec := { name := "livenessKnown", fn := fun _ => fun
  | [] => { results := [.lit (.bool false)], args := [] }
  | _ => none }
def LivenessKnownWrongFalsely : Prop := livenessKnownRow.holds Try.pinned (OpenSpec.ofChange livenessKnownWrong)

/-- 'drumlinlaw28.CursorKnown': WHATEVER THE INPUT: true; the input reads as it did. -/
def cursorKnownSpec : ChangeSpec := { name := "cursorKnown", fn := fun _ => fun
  | [] => { results := [.lit (.bool true)], args := [] }
  | _ => none }
def cursorKnownRow : OpenClaim := { program := "ytiidkehcfoajeaa", sum := "0cb80f113f2da885136d2f0e56cf233e741aad03aa47cf4c16ed9cba66f687fd", func := "drumlin/drumlinlaw28.CursorKnown", spec := "cursorKnown", inPlace := ["slices.overlaps[drumlin/ordmap.item[string, drumlin/index.list]]", "internal/bytealg.IndexByteString", "internal/bytealg.IndexString", "slices.overlaps[drumlin/api.Entry]"], unfollowed := true, recurses := true, named := ["internal/bytealg.MaxLen"], apart := false }
def CursorKnownSaid : Prop := cursorKnownRow.holds Try.pinned (OpenSpec.ofChange cursorKnownSpec)

/-- ITS FALSE NEIGHBOUR: 'it returns false'. Refute it at one input. -/
def cursorKnownWrong : ChangeSpec := { name := "cursorKnown", fn := fun _ => fun
  | [] => { results := [.lit (.bool false)], args := [] }
  | _ => none }
def CursorKnownWrongFalsely : Prop := cursorKnownRow.holds Try.pinned (OpenSpec.ofChange cursorKnownWrong)

/- THE SECOND FORM. 'bulk': how many values and letters a reading holds, each counted each time it is reached (what is shared counts as often as it is met; a slice's spare places count too). A statement '..UptoSaid' is the law's where the arguments, and the package variables that the reading takes, are together of bulk at most 1048576: NARROWER than '..Said'. Prove '..Said' where nothing that the law and all that it calls make is longer than what came in: it says more and counts as full. Else prove '..UptoSaid'. A law counts once. -/
mutual
def uptoBulk {H : Type} : DataW H → Nat
  | .lit (.string bytes) => bytes.length + 1
  | .lit _ => 1
  | .nil => 1
  | .ptr d => uptoBulk d + 1
  | .slice elems spare => uptoBulkAll elems + uptoBulkAll spare + 1
  | .agg parts => uptoBulkAll parts + 1
  | .iface _ d => uptoBulk d + 1
  | .map entries => uptoBulkEntries entries + 1
  | .held _ => 1
def uptoBulkAll {H : Type} : List (DataW H) → Nat
  | [] => 0
  | d :: r => uptoBulk d + uptoBulkAll r
def uptoBulkEntries {H : Type} : List (Lit × DataW H) → Nat
  | [] => 0
  | x :: r => uptoBulkEntry x + uptoBulkEntries r
def uptoBulkEntry {H : Type} : Lit × DataW H → Nat
  | (.string bytes, d) => bytes.length + uptoBulk d + 1
  | (_, d) => uptoBulk d + 1
 end
def uptoSmall : (H : Type) → List (DataW H) → Bool := fun _ ds => decide (uptoBulkAll ds ≤ 1048576)
def OpenSpec.upto (s : _root_.Go.ChangeSpec) : _root_.Go.OpenSpec := { _root_.Go.OpenSpec.ofChange s with cond := some uptoSmall }

/-- 'drumlinlaw22.KeydirNil', WHERE WHAT IT READS IS OF BULK AT MOST 1048576: true; the input reads as it did. -/
def keydirNilUptoRow : OpenClaim := { program := "ytiidkehcfoajeaa", sum := "0cb80f113f2da885136d2f0e56cf233e741aad03aa47cf4c16ed9cba66f687fd", func := "drumlin/drumlinlaw22.KeydirNil", spec := "keydirNil", inPlace := ["internal/bytealg.IndexByteString", "internal/bytealg.IndexString", "slices.overlaps[drumlin/api.Entry]", "slices.overlaps[drumlin/ordmap.item[string, drumlin/index.list]]"], unfollowed := true, recurses := true, named := ["internal/bytealg.MaxLen"], apart := false, narrowed := true }
def KeydirNilUptoSaid : Prop := keydirNilUptoRow.holds Try.pinned (OpenSpec.upto keydirNilSpec)

/-- 'drumlinlaw23.LedgerAges', WHERE WHAT IT READS IS OF BULK AT MOST 1048576: true; the input reads as it did. -/
def ledgerAgesUptoRow : OpenClaim := { program := "ytiidkehcfoajeaa", sum := "0cb80f113f2da885136d2f0e56cf233e741aad03aa47cf4c16ed9cba66f687fd", func := "drumlin/drumlinlaw23.LedgerAges", spec := "ledgerAges", inPlace := ["internal/bytealg.IndexByteString", "internal/bytealg.IndexString", "slices.overlaps[drumlin/api.Entry]", "slices.overlaps[drumlin/ordmap.item[string, drumlin/index.list]]"], unfollowed := true, recurses := true, named := ["internal/bytealg.MaxLen"], apart := false, narrowed := true }
def LedgerAgesUptoSaid : Prop := ledgerAgesUptoRow.holds Try.pinned (OpenSpec.upto ledgerAgesSpec)

/-- 'drumlinlaw23.LedgerNil', WHERE WHAT IT READS IS OF BULK AT MOST 1048576: true; the input reads as it did. -/
def ledgerNilUptoRow : OpenClaim := { program := "ytiidkehcfoajeaa", sum := "0cb80f113f2da885136d2f0e56cf233e741aad03aa47cf4c16ed9cba66f687fd", func := "drumlin/drumlinlaw23.LedgerNil", spec := "ledgerNil", inPlace := ["internal/bytealg.IndexByteString", "internal/bytealg.IndexString", "slices.overlaps[drumlin/api.Entry]", "slices.overlaps[drumlin/ordmap.item[string, drumlin/index.list]]"], unfollowed := true, recurses := true, named := ["internal/bytealg.MaxLen"], apart := false, narrowed := true }
def LedgerNilUptoSaid : Prop := ledgerNilUptoRow.holds Try.pinned (OpenSpec.upto ledgerNilSpec)

/-- 'drumlinlaw23.LedgerRefuses', WHERE WHAT IT READS IS OF BULK AT MOST 1048576: true; the input reads as it did. -/
def ledgerRefusesUptoRow : OpenClaim := { program := "ytiidkehcfoajeaa", sum := "0cb80f113f2da885136d2f0e56cf233e741aad03aa47cf4c16ed9cba66f687fd", func := "drumlin/drumlinlaw23.LedgerRefuses", spec := "ledgerRefuses", inPlace := ["internal/bytealg.IndexByteString", "internal/bytealg.IndexString", "slices.overlaps[drumlin/api.Entry]", "slices.overlaps[drumlin/ordmap.item[string, drumlin/index.list]]"], unfollowed := true, recurses := true, named := ["internal/bytealg.MaxLen"], apart := false, narrowed := true }
def LedgerRefusesUptoSaid : Prop := ledgerRefusesUptoRow.holds Try.pinned (OpenSpec.upto ledgerRefusesSpec)

/-- 'drumlinlaw21.IndexBreaks', WHERE WHAT IT READS IS OF BULK AT MOST 1048576: true; the input reads as it did. -/
def indexBreaksUptoRow : OpenClaim := { program := "ytiidkehcfoajeaa", sum := "0cb80f113f2da885136d2f0e56cf233e741aad03aa47cf4c16ed9cba66f687fd", func := "drumlin/drumlinlaw21.IndexBreaks", spec := "indexBreaks", inPlace := ["slices.overlaps[drumlin/ordmap.item[string, drumlin/index.list]]", "internal/bytealg.IndexByteString", "internal/bytealg.IndexString", "slices.overlaps[drumlin/api.Entry]"], unfollowed := true, recurses := true, named := ["internal/bytealg.MaxLen"], apart := false, narrowed := true }
def IndexBreaksUptoSaid : Prop := indexBreaksUptoRow.holds Try.pinned (OpenSpec.upto indexBreaksSpec)

/-- 'drumlinlaw21.IndexRefuses', WHERE WHAT IT READS IS OF BULK AT MOST 1048576: true; the input reads as it did. -/
def indexRefusesUptoRow : OpenClaim := { program := "ytiidkehcfoajeaa", sum := "0cb80f113f2da885136d2f0e56cf233e741aad03aa47cf4c16ed9cba66f687fd", func := "drumlin/drumlinlaw21.IndexRefuses", spec := "indexRefuses", inPlace := ["slices.overlaps[drumlin/ordmap.item[string, drumlin/index.list]]", "internal/bytealg.IndexByteString", "internal/bytealg.IndexString", "slices.overlaps[drumlin/api.Entry]"], unfollowed := true, recurses := true, named := ["internal/bytealg.MaxLen"], apart := false, narrowed := true }
def IndexRefusesUptoSaid : Prop := indexRefusesUptoRow.holds Try.pinned (OpenSpec.upto indexRefusesSpec)

/-- 'drumlinlaw28.CursorNil', WHERE WHAT IT READS IS OF BULK AT MOST 1048576: true; the input reads as it did. -/
def cursorNilUptoRow : OpenClaim := { program := "ytiidkehcfoajeaa", sum := "0cb80f113f2da885136d2f0e56cf233e741aad03aa47cf4c16ed9cba66f687fd", func := "drumlin/drumlinlaw28.CursorNil", spec := "cursorNil", inPlace := ["slices.overlaps[drumlin/ordmap.item[string, drumlin/index.list]]", "internal/bytealg.IndexByteString", "internal/bytealg.IndexString", "slices.overlaps[drumlin/api.Entry]"], unfollowed := true, recurses := true, named := ["internal/bytealg.MaxLen"], apart := false, narrowed := true }
def CursorNilUptoSaid : Prop := cursorNilUptoRow.holds Try.pinned (OpenSpec.upto cursorNilSpec)

/-- 'drumlinlaw21.IndexNil', WHERE WHAT IT READS IS OF BULK AT MOST 1048576: true; the input reads as it did. -/
def indexNilUptoRow : OpenClaim := { program := "ytiidkehcfoajeaa", sum := "0cb80f113f2da885136d2f0e56cf233e741aad03aa47cf4c16ed9cba66f687fd", func := "drumlin/drumlinlaw21.IndexNil", spec := "indexNil", inPlace := ["internal/bytealg.IndexByteString", "internal/bytealg.IndexString", "slices.overlaps[drumlin/api.Entry]", "slices.overlaps[drumlin/ordmap.item[string, drumlin/index.list]]"], unfollowed := true, recurses := true, named := ["internal/bytealg.MaxLen"], apart := false, narrowed := true }
def IndexNilUptoSaid : Prop := indexNilUptoRow.holds Try.pinned (OpenSpec.upto indexNilSpec)

/-- 'drumlinlaw21.IndexApart', WHERE WHAT IT READS IS OF BULK AT MOST 1048576: true; the input reads as it did. -/
def indexApartUptoRow : OpenClaim := { program := "ytiidkehcfoajeaa", sum := "0cb80f113f2da885136d2f0e56cf233e741aad03aa47cf4c16ed9cba66f687fd", func := "drumlin/drumlinlaw21.IndexApart", spec := "indexApart", inPlace := ["slices.overlaps[drumlin/ordmap.item[string, drumlin/index.list]]", "internal/bytealg.IndexByteString", "internal/bytealg.IndexString", "slices.overlaps[drumlin/api.Entry]"], unfollowed := true, recurses := true, named := ["internal/bytealg.MaxLen"], apart := false, narrowed := true }
def IndexApartUptoSaid : Prop := indexApartUptoRow.holds Try.pinned (OpenSpec.upto indexApartSpec)

/-- 'drumlinlaw24.LivenessNil', WHERE WHAT IT READS IS OF BULK AT MOST 1048576: true; the input reads as it did. -/
def livenessNilUptoRow : OpenClaim := { program := "ytiidkehcfoajeaa", sum := "0cb80f113f2da885136d2f0e56cf233e741aad03aa47cf4c16ed9cba66f687fd", func := "drumlin/drumlinlaw24.LivenessNil", spec := "livenessNil", inPlace := ["slices.overlaps[drumlin/ordmap.item[string, drumlin/index.list]]", "internal/bytealg.IndexByteString", "internal/bytealg.IndexString", "slices.overlaps[drumlin/api.Entry]"], unfollowed := true, recurses := true, named := ["internal/bytealg.MaxLen"], apart := false, narrowed := true }
def LivenessNilUptoSaid : Prop := livenessNilUptoRow.holds Try.pinned (OpenSpec.upto livenessNilSpec)

/-- 'drumlinlaw24.LivenessKnown', WHERE WHAT IT READS IS OF BULK AT MOST 1048576: true; the input reads as it did. -/
def livenessKnownUptoRow : OpenClaim := { program := "ytiidkehcfoajeaa", sum := "0cb80f113f2da885136d2f0e56cf233e741aad03aa47cf4c16ed9cba66f687fd", func := "drumlin/drumlinlaw24.LivenessKnown", spec := "livenessKnown", inPlace := ["internal/bytealg.IndexByteString", "internal/bytealg.IndexString", "slices.overlaps[drumlin/api.Entry]", "slices.overlaps[drumlin/ordmap.item[string, drumlin/index.list]]"], unfollowed := true, recurses := true, named := ["internal/bytealg.MaxLen"], apart := false, narrowed := true }
def LivenessKnownUptoSaid : Prop := livenessKnownUptoRow.holds Try.pinned (OpenSpec.upto livenessKnownSpec)

/-- 'drumlinlaw28.CursorKnown', WHERE WHAT IT READS IS OF BULK AT MOST 1048576: true; the input reads as it did. -/
def cursorKnownUptoRow : OpenClaim := { program := "ytiidkehcfoajeaa", sum := "0cb80f113f2da885136d2f0e56cf233e741aad03aa47cf4c16ed9cba66f687fd", func := "drumlin/drumlinlaw28.CursorKnown", spec := "cursorKnown", inPlace := ["slices.overlaps[drumlin/ordmap.item[string, drumlin/index.list]]", "internal/bytealg.IndexByteString", "internal/bytealg.IndexString", "slices.overlaps[drumlin/api.Entry]"], unfollowed := true, recurses := true, named := ["internal/bytealg.MaxLen"], apart := false, narrowed := true }
def CursorKnownUptoSaid : Prop := cursorKnownUptoRow.holds Try.pinned (OpenSpec.upto cursorKnownSpec)

end Rows
end Go.Proofs.Ytiidkehcfoajeaa
