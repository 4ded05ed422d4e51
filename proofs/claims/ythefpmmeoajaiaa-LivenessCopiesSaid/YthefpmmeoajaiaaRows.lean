/-
  No cell of these rows narrows 'for every input' (looked for: loops, veiled, ifaces, maps, wideKeys, modest, calm, conditions, laid).
  DERIVED. THE GIVEN ROWS OF THIS SEAT. 11 by the template 'for every input the law returns true; each argument reads behind the call as it read before'; 0 by the template 'total and deterministic' (their statements: YthefpmmeoajaiaaTotals.lean).
  GIVEN WITH THE SEED: the statements are not yours to turn. If you find one false, say at which input.
  Laid BY PROGRAM, IN A SANDBOX (cutbox-rows.mjs): the forced cells as the released guide's own fill.sh prints them over the translation 620488df9e066466… (all of the seat's roots in one cut). By AI agents, Wed Nov 11 2026. No macro, syntax, notation, axiom, sorry.
-/
import Derived.Test.YthefpmmeoajaiaaChecked
import GoSem.Claim
import GoSem.ClaimJoined
import GoSem.ClaimMapViews
import Derived.JoinedTies
import Derived.KernelRfl
namespace Go.Proofs.Ythefpmmeoajaiaa
/- THE CELL 'sum', in the pinned program and in every row, IS THE sha256 OF THE DUMP (.gsa) THAT YthefpmmeoajaiaaProg.lean LOADS. Nothing in Lean hashes anything: it is a label: what it is worth is what the hold of that sum in a sandbox is worth. -/
noncomputable def Try.pinned : Pinned := { name := "ythefpmmeoajaiaa", sum := "620488df9e0664667743f7ae34511899a5ba7834d5bca43d7ab8b266bb0435d2", checked := Try.checked }
namespace Rows
def none {H : Type} : Left H := { results := [], args := [] }

/-- 'drumlinlaw23.LedgerAdds': WHATEVER THE INPUT: true; the input reads as it did. -/
def ledgerAddsSpec : ChangeSpec := { name := "ledgerAdds", fn := fun _ => fun
  | [d1, d2] => { results := [.lit (.bool true)], args := [d1, d2] }
  | _ => none }
def ledgerAddsRow : OpenClaim := { program := "ythefpmmeoajaiaa", sum := "620488df9e0664667743f7ae34511899a5ba7834d5bca43d7ab8b266bb0435d2", func := "drumlin/drumlinlaw23.LedgerAdds", spec := "ledgerAdds", inPlace := ["internal/bytealg.IndexByteString", "internal/bytealg.IndexString", "slices.overlaps[drumlin/api.Entry]", "slices.overlaps[drumlin/ordmap.item[string, drumlin/index.list]]"], unfollowed := true, recurses := true, named := ["internal/bytealg.MaxLen"], apart := false }
def LedgerAddsSaid : Prop := ledgerAddsRow.holds Try.pinned (OpenSpec.ofChange ledgerAddsSpec)

/-- ITS FALSE NEIGHBOUR: 'it returns false'. Refute it at one input. -/
def ledgerAddsWrong : ChangeSpec := { name := "ledgerAdds", fn := fun _ => fun
  | [d1, d2] => { results := [.lit (.bool false)], args := [d1, d2] }
  | _ => none }
def LedgerAddsWrongFalsely : Prop := ledgerAddsRow.holds Try.pinned (OpenSpec.ofChange ledgerAddsWrong)

/-- 'drumlinlaw22.KeydirMap': WHATEVER THE INPUT: true; the input reads as it did. -/
def keydirMapSpec : ChangeSpec := { name := "keydirMap", fn := fun _ => fun
  | [d1, d2] => { results := [.lit (.bool true)], args := [d1, d2] }
  | _ => none }
def keydirMapRow : OpenClaim := { program := "ythefpmmeoajaiaa", sum := "620488df9e0664667743f7ae34511899a5ba7834d5bca43d7ab8b266bb0435d2", func := "drumlin/drumlinlaw22.KeydirMap", spec := "keydirMap", inPlace := ["internal/bytealg.IndexByteString", "internal/bytealg.IndexString", "slices.overlaps[drumlin/api.Entry]", "slices.overlaps[drumlin/ordmap.item[string, drumlin/index.list]]"], unfollowed := true, recurses := true, named := ["internal/bytealg.MaxLen"], apart := false }
def KeydirMapSaid : Prop := keydirMapRow.holds Try.pinned (OpenSpec.ofChange keydirMapSpec)

/-- ITS FALSE NEIGHBOUR: 'it returns false'. Refute it at one input. -/
def keydirMapWrong : ChangeSpec := { name := "keydirMap", fn := fun _ => fun
  | [d1, d2] => { results := [.lit (.bool false)], args := [d1, d2] }
  | _ => none }
def KeydirMapWrongFalsely : Prop := keydirMapRow.holds Try.pinned (OpenSpec.ofChange keydirMapWrong)

/-- 'drumlinlaw22.KeydirShadows': WHATEVER THE INPUT: true; the input reads as it did. -/
def keydirShadowsSpec : ChangeSpec := { name := "keydirShadows", fn := fun _ => fun
  | [d1, d2] => { results := [.lit (.bool true)], args := [d1, d2] }
  | _ => none }
def keydirShadowsRow : OpenClaim := { program := "ythefpmmeoajaiaa", sum := "620488df9e0664667743f7ae34511899a5ba7834d5bca43d7ab8b266bb0435d2", func := "drumlin/drumlinlaw22.KeydirShadows", spec := "keydirShadows", inPlace := ["internal/bytealg.IndexByteString", "internal/bytealg.IndexString", "slices.overlaps[drumlin/api.Entry]", "slices.overlaps[drumlin/ordmap.item[string, drumlin/index.list]]"], unfollowed := true, recurses := true, named := ["internal/bytealg.MaxLen"], apart := false }
def KeydirShadowsSaid : Prop := keydirShadowsRow.holds Try.pinned (OpenSpec.ofChange keydirShadowsSpec)

/-- ITS FALSE NEIGHBOUR: 'it returns false'. Refute it at one input. -/
def keydirShadowsWrong : ChangeSpec := { name := "keydirShadows", fn := fun _ => fun
  | [d1, d2] => { results := [.lit (.bool false)], args := [d1, d2] }
  | _ => none }
def KeydirShadowsWrongFalsely : Prop := keydirShadowsRow.holds Try.pinned (OpenSpec.ofChange keydirShadowsWrong)

/-- 'drumlinlaw22.KeydirEarly': WHATEVER THE INPUT: true; the input reads as it did. -/
def keydirEarlySpec : ChangeSpec := { name := "keydirEarly", fn := fun _ => fun
  | [d1, d2, d3] => { results := [.lit (.bool true)], args := [d1, d2, d3] }
  | _ => none }
def keydirEarlyRow : OpenClaim := { program := "ythefpmmeoajaiaa", sum := "620488df9e0664667743f7ae34511899a5ba7834d5bca43d7ab8b266bb0435d2", func := "drumlin/drumlinlaw22.KeydirEarly", spec := "keydirEarly", inPlace := ["internal/bytealg.IndexByteString", "internal/bytealg.IndexString", "slices.overlaps[drumlin/api.Entry]", "slices.overlaps[drumlin/ordmap.item[string, drumlin/index.list]]"], unfollowed := true, recurses := true, named := ["internal/bytealg.MaxLen"], apart := false }
def KeydirEarlySaid : Prop := keydirEarlyRow.holds Try.pinned (OpenSpec.ofChange keydirEarlySpec)

/-- ITS FALSE NEIGHBOUR: 'it returns false'. Refute it at one input. -/
def keydirEarlyWrong : ChangeSpec := { name := "keydirEarly", fn := fun _ => fun
  | [d1, d2, d3] => { results := [.lit (.bool false)], args := [d1, d2, d3] }
  | _ => none }
def KeydirEarlyWrongFalsely : Prop := keydirEarlyRow.holds Try.pinned (OpenSpec.ofChange keydirEarlyWrong)

/-- 'drumlinlaw22.KeydirDrops': WHATEVER THE INPUT: true; the input reads as it did. -/
def keydirDropsSpec : ChangeSpec := { name := "keydirDrops", fn := fun _ => fun
  | [d1, d2] => { results := [.lit (.bool true)], args := [d1, d2] }
  | _ => none }
def keydirDropsRow : OpenClaim := { program := "ythefpmmeoajaiaa", sum := "620488df9e0664667743f7ae34511899a5ba7834d5bca43d7ab8b266bb0435d2", func := "drumlin/drumlinlaw22.KeydirDrops", spec := "keydirDrops", inPlace := ["internal/bytealg.IndexByteString", "internal/bytealg.IndexString", "slices.overlaps[drumlin/api.Entry]", "slices.overlaps[drumlin/ordmap.item[string, drumlin/index.list]]"], unfollowed := true, recurses := true, named := ["internal/bytealg.MaxLen"], apart := false }
def KeydirDropsSaid : Prop := keydirDropsRow.holds Try.pinned (OpenSpec.ofChange keydirDropsSpec)

/-- ITS FALSE NEIGHBOUR: 'it returns false'. Refute it at one input. -/
def keydirDropsWrong : ChangeSpec := { name := "keydirDrops", fn := fun _ => fun
  | [d1, d2] => { results := [.lit (.bool false)], args := [d1, d2] }
  | _ => none }
def KeydirDropsWrongFalsely : Prop := keydirDropsRow.holds Try.pinned (OpenSpec.ofChange keydirDropsWrong)

/-- 'drumlinlaw24.LivenessRetires': WHATEVER THE INPUT: true; the input reads as it did. -/
def livenessRetiresSpec : ChangeSpec := { name := "livenessRetires", fn := fun _ => fun
  | [d] => { results := [.lit (.bool true)], args := [d] }
  | _ => none }
def livenessRetiresRow : OpenClaim := { program := "ythefpmmeoajaiaa", sum := "620488df9e0664667743f7ae34511899a5ba7834d5bca43d7ab8b266bb0435d2", func := "drumlin/drumlinlaw24.LivenessRetires", spec := "livenessRetires", inPlace := ["internal/bytealg.IndexByteString", "internal/bytealg.IndexString", "slices.overlaps[drumlin/api.Entry]", "slices.overlaps[drumlin/ordmap.item[string, drumlin/index.list]]"], unfollowed := true, recurses := true, named := ["internal/bytealg.MaxLen"], apart := false }
def LivenessRetiresSaid : Prop := livenessRetiresRow.holds Try.pinned (OpenSpec.ofChange livenessRetiresSpec)

/-- ITS FALSE NEIGHBOUR: 'it returns false'. Refute it at one input. -/
def livenessRetiresWrong : ChangeSpec := { name := "livenessRetires", fn := fun _ => fun
  | [d] => { results := [.lit (.bool false)], args := [d] }
  | _ => none }
def LivenessRetiresWrongFalsely : Prop := livenessRetiresRow.holds Try.pinned (OpenSpec.ofChange livenessRetiresWrong)

/-- 'drumlinlaw24.LivenessRefuses': WHATEVER THE INPUT: true; the input reads as it did. -/
def livenessRefusesSpec : ChangeSpec := { name := "livenessRefuses", fn := fun _ => fun
  | [d1, d2, d3] => { results := [.lit (.bool true)], args := [d1, d2, d3] }
  | _ => none }
def livenessRefusesRow : OpenClaim := { program := "ythefpmmeoajaiaa", sum := "620488df9e0664667743f7ae34511899a5ba7834d5bca43d7ab8b266bb0435d2", func := "drumlin/drumlinlaw24.LivenessRefuses", spec := "livenessRefuses", inPlace := ["internal/bytealg.IndexByteString", "internal/bytealg.IndexString", "slices.overlaps[drumlin/api.Entry]", "slices.overlaps[drumlin/ordmap.item[string, drumlin/index.list]]"], unfollowed := true, recurses := true, named := ["internal/bytealg.MaxLen"], apart := false }
def LivenessRefusesSaid : Prop := livenessRefusesRow.holds Try.pinned (OpenSpec.ofChange livenessRefusesSpec)

/-- ITS FALSE NEIGHBOUR: 'it returns false'. Refute it at one input. -/
def livenessRefusesWrong : ChangeSpec := { name := "livenessRefuses", fn := fun _ => fun
  | [d1, d2, d3] => { results := [.lit (.bool false)], args := [d1, d2, d3] }
  | _ => none }
def LivenessRefusesWrongFalsely : Prop := livenessRefusesRow.holds Try.pinned (OpenSpec.ofChange livenessRefusesWrong)

/-- 'drumlinlaw24.LivenessKeeps': WHATEVER THE INPUT: true; the input reads as it did. -/
def livenessKeepsSpec : ChangeSpec := { name := "livenessKeeps", fn := fun _ => fun
  | [d1, d2] => { results := [.lit (.bool true)], args := [d1, d2] }
  | _ => none }
def livenessKeepsRow : OpenClaim := { program := "ythefpmmeoajaiaa", sum := "620488df9e0664667743f7ae34511899a5ba7834d5bca43d7ab8b266bb0435d2", func := "drumlin/drumlinlaw24.LivenessKeeps", spec := "livenessKeeps", inPlace := ["internal/bytealg.IndexByteString", "internal/bytealg.IndexString", "slices.overlaps[drumlin/api.Entry]", "slices.overlaps[drumlin/ordmap.item[string, drumlin/index.list]]"], unfollowed := true, recurses := true, named := ["internal/bytealg.MaxLen"], apart := false }
def LivenessKeepsSaid : Prop := livenessKeepsRow.holds Try.pinned (OpenSpec.ofChange livenessKeepsSpec)

/-- ITS FALSE NEIGHBOUR: 'it returns false'. Refute it at one input. -/
def livenessKeepsWrong : ChangeSpec := { name := "livenessKeeps", fn := fun _ => fun
  | [d1, d2] => { results := [.lit (.bool false)], args := [d1, d2] }
  | _ => none }
def LivenessKeepsWrongFalsely : Prop := livenessKeepsRow.holds Try.pinned (OpenSpec.ofChange livenessKeepsWrong)

/-- 'drumlinlaw24.LivenessNeeds': WHATEVER THE INPUT: true; the input reads as it did. -/
def livenessNeedsSpec : ChangeSpec := { name := "livenessNeeds", fn := fun _ => fun
  | [d1, d2] => { results := [.lit (.bool true)], args := [d1, d2] }
  | _ => none }
def livenessNeedsRow : OpenClaim := { program := "ythefpmmeoajaiaa", sum := "620488df9e0664667743f7ae34511899a5ba7834d5bca43d7ab8b266bb0435d2", func := "drumlin/drumlinlaw24.LivenessNeeds", spec := "livenessNeeds", inPlace := ["internal/bytealg.IndexByteString", "internal/bytealg.IndexString", "slices.overlaps[drumlin/api.Entry]", "slices.overlaps[drumlin/ordmap.item[string, drumlin/index.list]]"], unfollowed := true, recurses := true, named := ["internal/bytealg.MaxLen"], apart := false }
def LivenessNeedsSaid : Prop := livenessNeedsRow.holds Try.pinned (OpenSpec.ofChange livenessNeedsSpec)

/-- ITS FALSE NEIGHBOUR: 'it returns false'. Refute it at one input. -/
def livenessNeedsWrong : ChangeSpec := { name := "livenessNeeds", fn := fun _ => fun
  | [d1, d2] => { results := [.lit (.bool false)], args := [d1, d2] }
  | _ => none }
def LivenessNeedsWrongFalsely : Prop := livenessNeedsRow.holds Try.pinned (OpenSpec.ofChange livenessNeedsWrong)

/-- 'drumlinlaw24.LivenessCopies': WHATEVER THE INPUT: true; the input reads as it did. -/
def livenessCopiesSpec : ChangeSpec := { name := "livenessCopies", fn := fun _ => fun
  | [d1, d2] => { results := [.lit (.bool true)], args := [d1, d2] }
  | _ => none }
def livenessCopiesRow : OpenClaim := { program := "ythefpmmeoajaiaa", sum := "620488df9e0664667743f7ae34511899a5ba7834d5bca43d7ab8b266bb0435d2", func := "drumlin/drumlinlaw24.LivenessCopies", spec := "livenessCopies", inPlace := ["internal/bytealg.IndexByteString", "internal/bytealg.IndexString", "slices.overlaps[drumlin/api.Entry]", "slices.overlaps[drumlin/ordmap.item[string, drumlin/index.list]]"], unfollowed := true, recurses := true, named := ["internal/bytealg.MaxLen"], apart := false }
def LivenessCopiesSaid : Prop := livenessCopiesRow.holds Try.pinned (OpenSpec.ofChange livenessCopiesSpec)

/-- ITS FALSE NEIGHBOUR: 'it returns false'. Refute it at one input. -/
def livenessCopiesWrong : ChangeSpec := { name := "livenessCopies", fn := fun _ => fun
  | [d1, d2] => { results := [.lit (.bool false)], args := [d1, d2] }
  | _ => none }
def LivenessCopiesWrongFalsely : Prop := livenessCopiesRow.holds Try.pinned (OpenSpec.ofChange livenessCopiesWrong)

/-- 'drumlinlaw28.CursorAll': WHATEVER THE INPUT: true; the input reads as it did. -/
def cursorAllSpec : ChangeSpec := { name := "cursorAll", fn := fun _ => fun
  | [d1, d2, d3] => { results := [.lit (.bool true)], args := [d1, d2, d3] }
  | _ => none }
def cursorAllRow : OpenClaim := { program := "ythefpmmeoajaiaa", sum := "620488df9e0664667743f7ae34511899a5ba7834d5bca43d7ab8b266bb0435d2", func := "drumlin/drumlinlaw28.CursorAll", spec := "cursorAll", inPlace := ["internal/bytealg.IndexByteString", "internal/bytealg.IndexString", "slices.overlaps[drumlin/api.Entry]", "slices.overlaps[drumlin/ordmap.item[string, drumlin/index.list]]"], unfollowed := true, recurses := true, named := ["internal/bytealg.MaxLen"], apart := false }
def CursorAllSaid : Prop := cursorAllRow.holds Try.pinned (OpenSpec.ofChange cursorAllSpec)

/-- ITS FALSE NEIGHBOUR: 'it returns false'. Refute it at one input. -/
def cursorAllWrong : ChangeSpec := { name := "cursorAll", fn := fun _ => fun
  | [d1, d2, d3] => { results := [.lit (.bool false)], args := [d1, d2, d3] }
  | _ => none }
def CursorAllWrongFalsely : Prop := cursorAllRow.holds Try.pinned (OpenSpec.ofChange cursorAllWrong)

/- THE SECOND FORM. 'bulk': how many values and letters a reading holds, each counted each time it is reached (what is shared counts as often as it is met; a slice's spare places count too). A statement '..UptoSaid' is the law's where the arguments, and the package variables that the reading takes, are together of bulk at most 1048576: NARROWER than '..Said'. Prove '..Said' where nothing that the law and all that it calls make is longer than what came in: it says more and counts as full. Else prove '..UptoSaid'. A law counts once. -/
mutual
def uptoBulk {H : Type} : DataW H → Nat
  | .lit (.string bytes) => bytes.length + 1
  | .lit _ => 1
  | .nil => 1
  | .ptr d => uptoBulk d + 1
  | .slice elems spare => uptoBulkAll elems + uptoBulkAll spare + 1
  | .agg parts => uptoBulkAll parts + 1
  | .iface _ d => uptoBulk d + 1
  | .map entries => uptoBulkEntries entries + 1
  | .held _ => 1
def uptoBulkAll {H : Type} : List (DataW H) → Nat
  | [] => 0
  | d :: r => uptoBulk d + uptoBulkAll r
def uptoBulkEntries {H : Type} : List (Lit × DataW H) → Nat
  | [] => 0
  | x :: r => uptoBulkEntry x + uptoBulkEntries r
def uptoBulkEntry {H : Type} : Lit × DataW H → Nat
  | (.string bytes, d) => bytes.length + uptoBulk d + 1
  | (_, d) => uptoBulk d + 1
 end
def uptoSmall : (H : Type) → List (DataW H) → Bool := fun _ ds => decide (uptoBulkAll ds ≤ 1048576)
def OpenSpec.upto (s : _root_.Go.ChangeSpec) : _root_.Go.OpenSpec := { _root_.Go.OpenSpec.ofChange s with cond := some uptoSmall }

/-- 'drumlinlaw23.LedgerAdds', WHERE WHAT IT READS IS OF BULK AT MOST 1048576: true; the input reads as it did. -/
def ledgerAddsUptoRow : OpenClaim := { program := "ythefpmmeoajaiaa", sum := "620488df9e0664667743f7ae34511899a5ba7834d5bca43d7ab8b266bb0435d2", func := "drumlin/drumlinlaw23.LedgerAdds", spec := "ledgerAdds", inPlace := ["internal/bytealg.IndexByteString", "internal/bytealg.IndexString", "slices.overlaps[drumlin/api.Entry]", "slices.overlaps[drumlin/ordmap.item[string, drumlin/index.list]]"], unfollowed := true, recurses := true, named := ["internal/bytealg.MaxLen"], apart := false, narrowed := true }
def LedgerAddsUptoSaid : Prop := ledgerAddsUptoRow.holds Try.pinned (OpenSpec.upto ledgerAddsSpec)

/-- 'drumlinlaw22.KeydirMap', WHERE WHAT IT READS IS OF BULK AT MOST 1048576: true; the input reads as it did. -/
def keydirMapUptoRow : OpenClaim := { program := "ythefpmmeoajaiaa", sum := "620488df9e0664667743f7ae34511899a5ba7834d5bca43d7ab8b266bb0435d2", func := "drumlin/drumlinlaw22.KeydirMap", spec := "keydirMap", inPlace := ["internal/bytealg.IndexByteString", "internal/bytealg.IndexString", "slices.overlaps[drumlin/api.Entry]", "slices.overlaps[drumlin/ordmap.item[string, drumlin/index.list]]"], unfollowed := true, recurses := true, named := ["internal/bytealg.MaxLen"], apart := false, narrowed := true }
def KeydirMapUptoSaid : Prop := keydirMapUptoRow.holds Try.pinned (OpenSpec.upto keydirMapSpec)

/-- 'drumlinlaw22.KeydirShadows', WHERE WHAT IT READS IS OF BULK AT MOST 1048576: true; the input reads as it did. -/
def keydirShadowsUptoRow : OpenClaim := { program := "ythefpmmeoajaiaa", sum := "620488df9e0664667743f7ae34511899a5ba7834d5bca43d7ab8b266bb0435d2", func := "drumlin/drumlinlaw22.KeydirShadows", spec := "keydirShadows", inPlace := ["internal/bytealg.IndexByteString", "internal/bytealg.IndexString", "slices.overlaps[drumlin/api.Entry]", "slices.overlaps[drumlin/ordmap.item[string, drumlin/index.list]]"], unfollowed := true, recurses := true, named := ["internal/bytealg.MaxLen"], apart := false, narrowed := true }
def KeydirShadowsUptoSaid : Prop := keydirShadowsUptoRow.holds Try.pinned (OpenSpec.upto keydirShadowsSpec)

/-- 'drumlinlaw22.KeydirEarly', WHERE WHAT IT READS IS OF BULK AT MOST 1048576: true; the input reads as it did. -/
def keydirEarlyUptoRow : OpenClaim := { program := "ythefpmmeoajaiaa", sum := "620488df9e0664667743f7ae34511899a5ba7834d5bca43d7ab8b266bb0435d2", func := "drumlin/drumlinlaw22.KeydirEarly", spec := "keydirEarly", inPlace := ["internal/bytealg.IndexByteString", "internal/bytealg.IndexString", "slices.overlaps[drumlin/api.Entry]", "slices.overlaps[drumlin/ordmap.item[string, drumlin/index.list]]"], unfollowed := true, recurses := true, named := ["internal/bytealg.MaxLen"], apart := false, narrowed := true }
def KeydirEarlyUptoSaid : Prop := keydirEarlyUptoRow.holds Try.pinned (OpenSpec.upto keydirEarlySpec)

/-- 'drumlinlaw22.KeydirDrops', WHERE WHAT IT READS IS OF BULK AT MOST 1048576: true; the input reads as it did. -/
def keydirDropsUptoRow : OpenClaim := { program := "ythefpmmeoajaiaa", sum := "620488df9e0664667743f7ae34511899a5ba7834d5bca43d7ab8b266bb0435d2", func := "drumlin/drumlinlaw22.KeydirDrops", spec := "keydirDrops", inPlace := ["internal/bytealg.IndexByteString", "internal/bytealg.IndexString", "slices.overlaps[drumlin/api.Entry]", "slices.overlaps[drumlin/ordmap.item[string, drumlin/index.list]]"], unfollowed := true, recurses := true, named := ["internal/bytealg.MaxLen"], apart := false, narrowed := true }
def KeydirDropsUptoSaid : Prop := keydirDropsUptoRow.holds Try.pinned (OpenSpec.upto keydirDropsSpec)

/-- 'drumlinlaw24.LivenessRetires', WHERE WHAT IT READS IS OF BULK AT MOST 1048576: true; the input reads as it did. -/
def livenessRetiresUptoRow : OpenClaim := { program := "ythefpmmeoajaiaa", sum := "620488df9e0664667743f7ae34511899a5ba7834d5bca43d7ab8b266bb0435d2", func := "drumlin/drumlinlaw24.LivenessRetires", spec := "livenessRetires", inPlace := ["internal/bytealg.IndexByteString", "internal/bytealg.IndexString", "slices.overlaps[drumlin/api.Entry]", "slices.overlaps[drumlin/ordmap.item[string, drumlin/index.list]]"], unfollowed := true, recurses := true, named := ["internal/bytealg.MaxLen"], apart := false, narrowed := true }
def LivenessRetiresUptoSaid : Prop := livenessRetiresUptoRow.holds Try.pinned (OpenSpec.upto livenessRetiresSpec)

/-- 'drumlinlaw24.LivenessRefuses', WHERE WHAT IT READS IS OF BULK AT MOST 1048576: true; the input reads as it did. -/
def livenessRefusesUptoRow : OpenClaim := { program := "ythefpmmeoajaiaa", sum := "620488df9e0664667743f7ae34511899a5ba7834d5bca43d7ab8b266bb0435d2", func := "drumlin/drumlinlaw24.LivenessRefuses", spec := "livenessRefuses", inPlace := ["internal/bytealg.IndexByteString", "internal/bytealg.IndexString", "slices.overlaps[drumlin/api.Entry]", "slices.overlaps[drumlin/ordmap.item[string, drumlin/index.list]]"], unfollowed := true, recurses := true, named := ["internal/bytealg.MaxLen"], apart := false, narrowed := true }
def LivenessRefusesUptoSaid : Prop := livenessRefusesUptoRow.holds Try.pinned (OpenSpec.upto livenessRefusesSpec)

/-- 'drumlinlaw24.LivenessKeeps', WHERE WHAT IT READS IS OF BULK AT MOST 1048576: true; the input reads as it did. -/
def livenessKeepsUptoRow : OpenClaim := { program := "ythefpmmeoajaiaa", sum := "620488df9e0664667743f7ae34511899a5ba7834d5bca43d7ab8b266bb0435d2", func := "drumlin/drumlinlaw24.LivenessKeeps", spec := "livenessKeeps", inPlace := ["internal/bytealg.IndexByteString", "internal/bytealg.IndexString", "slices.overlaps[drumlin/api.Entry]", "slices.overlaps[drumlin/ordmap.item[string, drumlin/index.list]]"], unfollowed := true, recurses := true, named := ["internal/bytealg.MaxLen"], apart := false, narrowed := true }
def LivenessKeepsUptoSaid : Prop := livenessKeepsUptoRow.holds Try.pinned (OpenSpec.upto livenessKeepsSpec)

/-- 'drumlinlaw24.LivenessNeeds', WHERE WHAT IT READS IS OF BULK AT MOST 1048576: true; the input reads as it did. -/
def livenessNeedsUptoRow : OpenClaim := { program := "ythefpmmeoajaiaa", sum := "620488df9e0664667743f7ae34511899a5ba7834d5bca43d7ab8b266bb0435d2", func := "drumlin/drumlinlaw24.LivenessNeeds", spec := "livenessNeeds", inPlace := ["internal/bytealg.IndexByteString", "internal/bytealg.IndexString", "slices.overlaps[drumlin/api.Entry]", "slices.overlaps[drumlin/ordmap.item[string, drumlin/index.list]]"], unfollowed := true, recurses := true, named := ["internal/bytealg.MaxLen"], apart := false, narrowed := true }
def LivenessNeedsUptoSaid : Prop := livenessNeedsUptoRow.holds Try.pinned (OpenSpec.upto livenessNeedsSpec)

/-- 'drumlinlaw24.LivenessCopies', WHERE WHAT IT READS IS OF BULK AT MOST 1048576: true; the input reads as it did. -/
def livenessCopiesUptoRow : OpenClaim := { program := "ythefpmmeoajaiaa", sum := "620488df9e0664667743f7ae34511899a5ba7834d5bca43d7ab8b266bb0435d2", func := "drumlin/drumlinlaw24.LivenessCopies", spec := "livenessCopies", inPlace := ["internal/bytealg.IndexByteString", "internal/bytealg.IndexString", "slices.overlaps[drumlin/api.Entry]", "slices.overlaps[drumlin/ordmap.item[string, drumlin/index.list]]"], unfollowed := true, recurses := true, named := ["internal/bytealg.MaxLen"], apart := false, narrowed := true }
def LivenessCopiesUptoSaid : Prop := livenessCopiesUptoRow.holds Try.pinned (OpenSpec.upto livenessCopiesSpec)

/-- 'drumlinlaw28.CursorAll', WHERE WHAT IT READS IS OF BULK AT MOST 1048576: true; the input reads as it did. -/
def cursorAllUptoRow : OpenClaim := { program := "ythefpmmeoajaiaa", sum := "620488df9e0664667743f7ae34511899a5ba7834d5bca43d7ab8b266bb0435d2", func := "drumlin/drumlinlaw28.CursorAll", spec := "cursorAll", inPlace := ["internal/bytealg.IndexByteString", "internal/bytealg.IndexString", "slices.overlaps[drumlin/api.Entry]", "slices.overlaps[drumlin/ordmap.item[string, drumlin/index.list]]"], unfollowed := true, recurses := true, named := ["internal/bytealg.MaxLen"], apart := false, narrowed := true }
def CursorAllUptoSaid : Prop := cursorAllUptoRow.holds Try.pinned (OpenSpec.upto cursorAllSpec)

end Rows
end Go.Proofs.Ythefpmmeoajaiaa
