/-
  No cell of these rows narrows 'for every input' (looked for: loops, veiled, ifaces, maps, wideKeys, modest, calm, conditions, laid).
  DERIVED. THE GIVEN ROWS OF THIS SEAT. 4 by the template 'for every input the law returns true; each argument reads behind the call as it read before'; 0 by the template 'total and deterministic' (their statements: YtmdfickejpeofaaTotals.lean).
  GIVEN WITH THE SEED: the statements are not yours to turn. If you find one false, say at which input.
  Laid BY PROGRAM, IN A SANDBOX (cutbox-rows.mjs): the forced cells as the released guide's own fill.sh prints them over the translation 6021342216cc170f… (all of the seat's roots in one cut). By AI agents, Wed Nov 11 2026. No macro, syntax, notation, axiom, sorry.
-/
import Derived.Test.YtmdfickejpeofaaChecked
import GoSem.Claim
import GoSem.ClaimJoined
import GoSem.ClaimMapViews
import Derived.JoinedTies
import Derived.KernelRfl
namespace Go.Proofs.Ytmdfickejpeofaa
/- THE CELL 'sum', in the pinned program and in every row, IS THE sha256 OF THE DUMP (.gsa) THAT YtmdfickejpeofaaProg.lean LOADS. Nothing in Lean hashes anything: it is a label: what it is worth is what the hold of that sum in a sandbox is worth. -/
noncomputable def Try.pinned : Pinned := { name := "ytmdfickejpeofaa", sum := "6021342216cc170f55d696b199180afd9d52bde262ee024757108eb9ca659cb8", checked := Try.checked }
namespace Rows
def none {H : Type} : Left H := { results := [], args := [] }

/-- 'drumlinlaw03.OrdmapTypes': WHATEVER THE INPUT: true; the input reads as it did. -/
def ordmapTypesSpec : ChangeSpec := { name := "ordmapTypes", fn := fun _ => fun
  | [d] => { results := [.lit (.bool true)], args := [d] }
  | _ => none }
def ordmapTypesRow : OpenClaim := { program := "ytmdfickejpeofaa", sum := "6021342216cc170f55d696b199180afd9d52bde262ee024757108eb9ca659cb8", func := "drumlin/drumlinlaw03.OrdmapTypes", spec := "ordmapTypes", inPlace := ["slices.overlaps[drumlin/ordmap.item[byte, drumlin/drumlinlaw03.pair]]", "slices.overlaps[drumlin/ordmap.item[uint8, *int]]", "slices.overlaps[drumlin/ordmap.item[int, string]]"], unfollowed := true, recurses := true, apart := false }
def OrdmapTypesSaid : Prop := ordmapTypesRow.holds Try.pinned (OpenSpec.ofChange ordmapTypesSpec)

/-- ITS FALSE NEIGHBOUR: 'it returns false'. Refute it at one input. -/
def ordmapTypesWrong : ChangeSpec := { name := "ordmapTypes", fn := fun _ => fun
  | [d] => { results := [.lit (.bool false)], args := [d] }
  | _ => none }
def OrdmapTypesWrongFalsely : Prop := ordmapTypesRow.holds Try.pinned (OpenSpec.ofChange ordmapTypesWrong)

/-- 'drumlinlaw23.LedgerCounts': WHATEVER THE INPUT: true; the input reads as it did. -/
def ledgerCountsSpec : ChangeSpec := { name := "ledgerCounts", fn := fun _ => fun
  | [d1, d2, d3] => { results := [.lit (.bool true)], args := [d1, d2, d3] }
  | _ => none }
def ledgerCountsRow : OpenClaim := { program := "ytmdfickejpeofaa", sum := "6021342216cc170f55d696b199180afd9d52bde262ee024757108eb9ca659cb8", func := "drumlin/drumlinlaw23.LedgerCounts", spec := "ledgerCounts", inPlace := ["internal/bytealg.IndexByteString", "internal/bytealg.IndexString", "slices.overlaps[drumlin/api.Entry]", "slices.overlaps[drumlin/ordmap.item[string, drumlin/index.list]]"], unfollowed := true, recurses := true, named := ["internal/bytealg.MaxLen"], apart := false }
def LedgerCountsSaid : Prop := ledgerCountsRow.holds Try.pinned (OpenSpec.ofChange ledgerCountsSpec)

/-- ITS FALSE NEIGHBOUR: 'it returns false'. Refute it at one input. -/
def ledgerCountsWrong : ChangeSpec := { name := "ledgerCounts", fn := fun _ => fun
  | [d1, d2, d3] => { results := [.lit (.bool false)], args := [d1, d2, d3] }
  | _ => none }
def LedgerCountsWrongFalsely : Prop := ledgerCountsRow.holds Try.pinned (OpenSpec.ofChange ledgerCountsWrong)

/-- 'drumlinlaw21.IndexPlays': WHATEVER THE INPUT: true; the input reads as it did. -/
def indexPlaysSpec : ChangeSpec := { name := "indexPlays", fn := fun _ => fun
  | [d1, d2] => { results := [.lit (.bool true)], args := [d1, d2] }
  | _ => none }
def indexPlaysRow : OpenClaim := { program := "ytmdfickejpeofaa", sum := "6021342216cc170f55d696b199180afd9d52bde262ee024757108eb9ca659cb8", func := "drumlin/drumlinlaw21.IndexPlays", spec := "indexPlays", inPlace := ["internal/bytealg.IndexByteString", "internal/bytealg.IndexString", "slices.overlaps[drumlin/api.Entry]", "slices.overlaps[drumlin/ordmap.item[string, drumlin/index.list]]"], unfollowed := true, recurses := true, named := ["internal/bytealg.MaxLen"], apart := false }
def IndexPlaysSaid : Prop := indexPlaysRow.holds Try.pinned (OpenSpec.ofChange indexPlaysSpec)

/-- ITS FALSE NEIGHBOUR: 'it returns false'. Refute it at one input. -/
def indexPlaysWrong : ChangeSpec := { name := "indexPlays", fn := fun _ => fun
  | [d1, d2] => { results := [.lit (.bool false)], args := [d1, d2] }
  | _ => none }
def IndexPlaysWrongFalsely : Prop := indexPlaysRow.holds Try.pinned (OpenSpec.ofChange indexPlaysWrong)

/-- 'drumlinlaw24.LivenessPlays': WHATEVER THE INPUT: true; the input reads as it did. -/
def livenessPlaysSpec : ChangeSpec := { name := "livenessPlays", fn := fun _ => fun
  | [d1, d2, d3, d4] => { results := [.lit (.bool true)], args := [d1, d2, d3, d4] }
  | _ => none }
def livenessPlaysRow : OpenClaim := { program := "ytmdfickejpeofaa", sum := "6021342216cc170f55d696b199180afd9d52bde262ee024757108eb9ca659cb8", func := "drumlin/drumlinlaw24.LivenessPlays", spec := "livenessPlays", inPlace := ["internal/bytealg.IndexByteString", "internal/bytealg.IndexString", "slices.overlaps[drumlin/api.Entry]", "slices.overlaps[drumlin/ordmap.item[string, drumlin/index.list]]"], unfollowed := true, recurses := true, named := ["internal/bytealg.MaxLen"], apart := false }
def LivenessPlaysSaid : Prop := livenessPlaysRow.holds Try.pinned (OpenSpec.ofChange livenessPlaysSpec)

/-- ITS FALSE NEIGHBOUR: 'it returns false'. Refute it at one input. -/
def livenessPlaysWrong : ChangeSpec := { name := "livenessPlays", fn := fun _ => fun
  | [d1, d2, d3, d4] => { results := [.lit (.bool false)], args := [d1, d2, d3, d4] }
  | _ => none }
def LivenessPlaysWrongFalsely : Prop := livenessPlaysRow.holds Try.pinned (OpenSpec.ofChange livenessPlaysWrong)

/- THE SECOND FORM. 'bulk': how many values and letters a reading holds, each counted each time it is reached (what is shared counts as often as it is met; a slice's spare places count too). A statement '..UptoSaid' is the law's where the arguments, and the package variables that the reading takes, are together of bulk at most 1048576: NARROWER than '..Said'. Prove '..Said' where nothing that the law and all that it calls make is longer than what came in: it says more and counts as full. Else prove '..UptoSaid'. A law counts once. -/
mutual
def uptoBulk {H : Type} : DataW H → Nat
  | .lit (.string bytes) => bytes.length + 1
  | .lit _ => 1
  | .nil => 1
  | .ptr d => uptoBulk d + 1
  | .slice elems spare => uptoBulkAll elems + uptoBulkAll spare + 1
  | .agg parts => uptoBulkAll parts + 1
  | .iface _ d => uptoBulk d + 1
  | .map entries => uptoBulkEntries entries + 1
  | .held _ => 1
def uptoBulkAll {H : Type} : List (DataW H) → Nat
  | [] => 0
  | d :: r => uptoBulk d + uptoBulkAll r
def uptoBulkEntries {H : Type} : List (Lit × DataW H) → Nat
  | [] => 0
  | x :: r => uptoBulkEntry x + uptoBulkEntries r
def uptoBulkEntry {H : Type} : Lit × DataW H → Nat
  | (.string bytes, d) => bytes.length + uptoBulk d + 1
  | (_, d) => uptoBulk d + 1
 end
def uptoSmall : (H : Type) → List (DataW H) → Bool := fun _ ds => decide (uptoBulkAll ds ≤ 1048576)
def OpenSpec.upto (s : _root_.Go.ChangeSpec) : _root_.Go.OpenSpec := { _root_.Go.OpenSpec.ofChange s with cond := some uptoSmall }

/-- 'drumlinlaw03.OrdmapTypes', WHERE WHAT IT READS IS OF BULK AT MOST 1048576: true; the input reads as it did. -/
def ordmapTypesUptoRow : OpenClaim := { program := "ytmdfickejpeofaa", sum := "6021342216cc170f55d696b199180afd9d52bde262ee024757108eb9ca659cb8", func := "drumlin/drumlinlaw03.OrdmapTypes", spec := "ordmapTypes", inPlace := ["slices.overlaps[drumlin/ordmap.item[byte, drumlin/drumlinlaw03.pair]]", "slices.overlaps[drumlin/ordmap.item[uint8, *int]]", "slices.overlaps[drumlin/ordmap.item[int, string]]"], unfollowed := true, recurses := true, apart := false, narrowed := true }
def OrdmapTypesUptoSaid : Prop := ordmapTypesUptoRow.holds Try.pinned (OpenSpec.upto ordmapTypesSpec)

/-- 'drumlinlaw23.LedgerCounts', WHERE WHAT IT READS IS OF BULK AT MOST 1048576: true; the input reads as it did. -/
def ledgerCountsUptoRow : OpenClaim := { program := "ytmdfickejpeofaa", sum := "6021342216cc170f55d696b199180afd9d52bde262ee024757108eb9ca659cb8", func := "drumlin/drumlinlaw23.LedgerCounts", spec := "ledgerCounts", inPlace := ["internal/bytealg.IndexByteString", "internal/bytealg.IndexString", "slices.overlaps[drumlin/api.Entry]", "slices.overlaps[drumlin/ordmap.item[string, drumlin/index.list]]"], unfollowed := true, recurses := true, named := ["internal/bytealg.MaxLen"], apart := false, narrowed := true }
def LedgerCountsUptoSaid : Prop := ledgerCountsUptoRow.holds Try.pinned (OpenSpec.upto ledgerCountsSpec)

/-- 'drumlinlaw21.IndexPlays', WHERE WHAT IT READS IS OF BULK AT MOST 1048576: true; the input reads as it did. -/
def indexPlaysUptoRow : OpenClaim := { program := "ytmdfickejpeofaa", sum := "6021342216cc170f55d696b199180afd9d52bde262ee024757108eb9ca659cb8", func := "drumlin/drumlinlaw21.IndexPlays", spec := "indexPlays", inPlace := ["internal/bytealg.IndexByteString", "internal/bytealg.IndexString", "slices.overlaps[drumlin/api.Entry]", "slices.overlaps[drumlin/ordmap.item[string, drumlin/index.list]]"], unfollowed := true, recurses := true, named := ["internal/bytealg.MaxLen"], apart := false, narrowed := true }
def IndexPlaysUptoSaid : Prop := indexPlaysUptoRow.holds Try.pinned (OpenSpec.upto indexPlaysSpec)

/-- 'drumlinlaw24.LivenessPlays', WHERE WHAT IT READS IS OF BULK AT MOST 1048576: true; the input reads as it did. -/
def livenessPlaysUptoRow : OpenClaim := { program := "ytmdfickejpeofaa", sum := "6021342216cc170f55d696b199180afd9d52bde262ee024757108eb9ca659cb8", func := "drumlin/drumlinlaw24.LivenessPlays", spec := "livenessPlays", inPlace := ["internal/bytealg.IndexByteString", "internal/bytealg.IndexString", "slices.overlaps[drumlin/api.Entry]", "slices.overlaps[drumlin/ordmap.item[string, drumlin/index.list]]"], unfollowed := true, recurses := true, named := ["internal/bytealg.MaxLen"], apart := false, narrowed := true }
def LivenessPlaysUptoSaid : Prop := livenessPlaysUptoRow.holds Try.pinned (OpenSpec.upto livenessPlaysSpec)

end Rows
end Go.Proofs.Ytmdfickejpeofaa
