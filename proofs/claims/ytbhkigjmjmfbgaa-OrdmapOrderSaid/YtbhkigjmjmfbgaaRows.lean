/-
  No cell of these rows narrows 'for every input' (looked for: loops, veiled, ifaces, maps, wideKeys, modest, calm, conditions, laid).
  DERIVED. THE GIVEN ROWS OF THIS SEAT. 7 by the template 'for every input the law returns true; each argument reads behind the call as it read before'; 0 by the template 'total and deterministic' (their statements: YtbhkigjmjmfbgaaTotals.lean).
  GIVEN WITH THE SEED: the statements are not yours to turn. If you find one false, say at which input.
  Laid BY PROGRAM, IN A SANDBOX (cutbox-rows.mjs): the forced cells as the released guide's own fill.sh prints them over the translation 900dc80bb5a36899… (all of the seat's roots in one cut). By AI agents, Wed Nov 11 2026. No macro, syntax, notation, axiom, sorry.
-/
import Derived.Test.YtbhkigjmjmfbgaaChecked
import GoSem.Claim
import GoSem.ClaimJoined
import GoSem.ClaimMapViews
import Derived.JoinedTies
import Derived.KernelRfl
namespace Go.Proofs.Ytbhkigjmjmfbgaa
/- THE CELL 'sum', in the pinned program and in every row, IS THE sha256 OF THE DUMP (.gsa) THAT YtbhkigjmjmfbgaaProg.lean LOADS. Nothing in Lean hashes anything: it is a label: what it is worth is what the hold of that sum in a sandbox is worth. -/
noncomputable def Try.pinned : Pinned := { name := "ytbhkigjmjmfbgaa", sum := "900dc80bb5a36899a87fd4d39839324896a6fbc99ffd3c9773dc6b84796f2b4a", checked := Try.checked }
namespace Rows
def none {H : Type} : Left H := { results := [], args := [] }

/-- 'drumlinlaw03.OrdmapStops': WHATEVER THE INPUT: true; the input reads as it did. -/
def ordmapStopsSpec : ChangeSpec := { name := "ordmapStops", fn := fun _ => fun
  | [d1, d2, d3] => { results := [.lit (.bool true)], args := [d1, d2, d3] }
  | _ => none }
def ordmapStopsRow : OpenClaim := { program := "ytbhkigjmjmfbgaa", sum := "900dc80bb5a36899a87fd4d39839324896a6fbc99ffd3c9773dc6b84796f2b4a", func := "drumlin/drumlinlaw03.OrdmapStops", spec := "ordmapStops", inPlace := ["slices.overlaps[drumlin/ordmap.item[int, int]]", "slices.overlaps[drumlin/ordmap.item[int, string]]"], unfollowed := true, recurses := true, apart := false }
def OrdmapStopsSaid : Prop := ordmapStopsRow.holds Try.pinned (OpenSpec.ofChange ordmapStopsSpec)

/-- ITS FALSE NEIGHBOUR: 'it returns false'. Refute it at one input. -/
def ordmapStopsWrong : ChangeSpec := { name := "ordmapStops", fn := fun _ => fun
  | [d1, d2, d3] => { results := [.lit (.bool false)], args := [d1, d2, d3] }
  | _ => none }
def OrdmapStopsWrongFalsely : Prop := ordmapStopsRow.holds Try.pinned (OpenSpec.ofChange ordmapStopsWrong)

/-- 'drumlinlaw03.OrdmapTypes': WHATEVER THE INPUT: true; the input reads as it did. -/
def ordmapTypesSpec : ChangeSpec := { name := "ordmapTypes", fn := fun _ => fun
  | [d] => { results := [.lit (.bool true)], args := [d] }
  | _ => none }
def ordmapTypesRow : OpenClaim := { program := "ytbhkigjmjmfbgaa", sum := "900dc80bb5a36899a87fd4d39839324896a6fbc99ffd3c9773dc6b84796f2b4a", func := "drumlin/drumlinlaw03.OrdmapTypes", spec := "ordmapTypes", inPlace := ["slices.overlaps[drumlin/ordmap.item[byte, drumlin/drumlinlaw03.pair]]", "slices.overlaps[drumlin/ordmap.item[uint8, *int]]", "slices.overlaps[drumlin/ordmap.item[int, string]]"], unfollowed := true, recurses := true, apart := false }
def OrdmapTypesSaid : Prop := ordmapTypesRow.holds Try.pinned (OpenSpec.ofChange ordmapTypesSpec)

/-- ITS FALSE NEIGHBOUR: 'it returns false'. Refute it at one input. -/
def ordmapTypesWrong : ChangeSpec := { name := "ordmapTypes", fn := fun _ => fun
  | [d] => { results := [.lit (.bool false)], args := [d] }
  | _ => none }
def OrdmapTypesWrongFalsely : Prop := ordmapTypesRow.holds Try.pinned (OpenSpec.ofChange ordmapTypesWrong)

/-- 'drumlinlaw03.OrdmapPlays': WHATEVER THE INPUT: true; the input reads as it did. -/
def ordmapPlaysSpec : ChangeSpec := { name := "ordmapPlays", fn := fun _ => fun
  | [d1, d2, d3] => { results := [.lit (.bool true)], args := [d1, d2, d3] }
  | _ => none }
def ordmapPlaysRow : OpenClaim := { program := "ytbhkigjmjmfbgaa", sum := "900dc80bb5a36899a87fd4d39839324896a6fbc99ffd3c9773dc6b84796f2b4a", func := "drumlin/drumlinlaw03.OrdmapPlays", spec := "ordmapPlays", inPlace := ["slices.overlaps[drumlin/ordmap.item[int, string]]", "slices.overlaps[drumlin/ordmap.item[string, string]]"], unfollowed := true, recurses := true, apart := false }
def OrdmapPlaysSaid : Prop := ordmapPlaysRow.holds Try.pinned (OpenSpec.ofChange ordmapPlaysSpec)

/-- ITS FALSE NEIGHBOUR: 'it returns false'. Refute it at one input. -/
def ordmapPlaysWrong : ChangeSpec := { name := "ordmapPlays", fn := fun _ => fun
  | [d1, d2, d3] => { results := [.lit (.bool false)], args := [d1, d2, d3] }
  | _ => none }
def OrdmapPlaysWrongFalsely : Prop := ordmapPlaysRow.holds Try.pinned (OpenSpec.ofChange ordmapPlaysWrong)

/-- 'drumlinlaw03.OrdmapNil': WHATEVER THE INPUT: true; the input reads as it did. -/
def ordmapNilSpec : ChangeSpec := { name := "ordmapNil", fn := fun _ => fun
  | [d1, d2, d3] => { results := [.lit (.bool true)], args := [d1, d2, d3] }
  | _ => none }
def ordmapNilRow : OpenClaim := { program := "ytbhkigjmjmfbgaa", sum := "900dc80bb5a36899a87fd4d39839324896a6fbc99ffd3c9773dc6b84796f2b4a", func := "drumlin/drumlinlaw03.OrdmapNil", spec := "ordmapNil", inPlace := ["slices.overlaps[drumlin/ordmap.item[int, string]]", "slices.overlaps[drumlin/ordmap.item[string, string]]"], unfollowed := true, recurses := true, apart := false }
def OrdmapNilSaid : Prop := ordmapNilRow.holds Try.pinned (OpenSpec.ofChange ordmapNilSpec)

/-- ITS FALSE NEIGHBOUR: 'it returns false'. Refute it at one input. -/
def ordmapNilWrong : ChangeSpec := { name := "ordmapNil", fn := fun _ => fun
  | [d1, d2, d3] => { results := [.lit (.bool false)], args := [d1, d2, d3] }
  | _ => none }
def OrdmapNilWrongFalsely : Prop := ordmapNilRow.holds Try.pinned (OpenSpec.ofChange ordmapNilWrong)

/-- 'drumlinlaw03.OrdmapCopies': WHATEVER THE INPUT: true; the input reads as it did. -/
def ordmapCopiesSpec : ChangeSpec := { name := "ordmapCopies", fn := fun _ => fun
  | [d1, d2] => { results := [.lit (.bool true)], args := [d1, d2] }
  | _ => none }
def ordmapCopiesRow : OpenClaim := { program := "ytbhkigjmjmfbgaa", sum := "900dc80bb5a36899a87fd4d39839324896a6fbc99ffd3c9773dc6b84796f2b4a", func := "drumlin/drumlinlaw03.OrdmapCopies", spec := "ordmapCopies", inPlace := ["slices.overlaps[drumlin/ordmap.item[int, int]]", "slices.overlaps[drumlin/ordmap.item[int, string]]"], unfollowed := true, recurses := true, apart := false }
def OrdmapCopiesSaid : Prop := ordmapCopiesRow.holds Try.pinned (OpenSpec.ofChange ordmapCopiesSpec)

/-- ITS FALSE NEIGHBOUR: 'it returns false'. Refute it at one input. -/
def ordmapCopiesWrong : ChangeSpec := { name := "ordmapCopies", fn := fun _ => fun
  | [d1, d2] => { results := [.lit (.bool false)], args := [d1, d2] }
  | _ => none }
def OrdmapCopiesWrongFalsely : Prop := ordmapCopiesRow.holds Try.pinned (OpenSpec.ofChange ordmapCopiesWrong)

/-- 'drumlinlaw03.OrdmapMap': WHATEVER THE INPUT: true; the input reads as it did. -/
def ordmapMapSpec : ChangeSpec := { name := "ordmapMap", fn := fun _ => fun
  | [d] => { results := [.lit (.bool true)], args := [d] }
  | _ => none }
def ordmapMapRow : OpenClaim := { program := "ytbhkigjmjmfbgaa", sum := "900dc80bb5a36899a87fd4d39839324896a6fbc99ffd3c9773dc6b84796f2b4a", func := "drumlin/drumlinlaw03.OrdmapMap", spec := "ordmapMap", inPlace := ["slices.overlaps[drumlin/ordmap.item[int, int]]", "slices.overlaps[drumlin/ordmap.item[int, string]]"], unfollowed := true, recurses := true, apart := false }
def OrdmapMapSaid : Prop := ordmapMapRow.holds Try.pinned (OpenSpec.ofChange ordmapMapSpec)

/-- ITS FALSE NEIGHBOUR: 'it returns false'. Refute it at one input. -/
def ordmapMapWrong : ChangeSpec := { name := "ordmapMap", fn := fun _ => fun
  | [d] => { results := [.lit (.bool false)], args := [d] }
  | _ => none }
def OrdmapMapWrongFalsely : Prop := ordmapMapRow.holds Try.pinned (OpenSpec.ofChange ordmapMapWrong)

/-- 'drumlinlaw03.OrdmapOrder': WHATEVER THE INPUT: true; the input reads as it did. -/
def ordmapOrderSpec : ChangeSpec := { name := "ordmapOrder", fn := fun _ => fun
  | [d1, d2] => { results := [.lit (.bool true)], args := [d1, d2] }
  | _ => none }
def ordmapOrderRow : OpenClaim := { program := "ytbhkigjmjmfbgaa", sum := "900dc80bb5a36899a87fd4d39839324896a6fbc99ffd3c9773dc6b84796f2b4a", func := "drumlin/drumlinlaw03.OrdmapOrder", spec := "ordmapOrder", inPlace := ["slices.overlaps[drumlin/ordmap.item[int, int]]", "slices.overlaps[drumlin/ordmap.item[int, string]]"], unfollowed := true, recurses := true, apart := false }
def OrdmapOrderSaid : Prop := ordmapOrderRow.holds Try.pinned (OpenSpec.ofChange ordmapOrderSpec)

/-- ITS FALSE NEIGHBOUR: 'it returns false'. Refute it at one input. -/
def ordmapOrderWrong : ChangeSpec := { name := "ordmapOrder", fn := fun _ => fun
  | [d1, d2] => { results := [.lit (.bool false)], args := [d1, d2] }
  | _ => none }
def OrdmapOrderWrongFalsely : Prop := ordmapOrderRow.holds Try.pinned (OpenSpec.ofChange ordmapOrderWrong)

/- THE SECOND FORM. 'bulk': how many values and letters a reading holds, each counted each time it is reached (what is shared counts as often as it is met; a slice's spare places count too). A statement '..UptoSaid' is the law's where the arguments, and the package variables that the reading takes, are together of bulk at most 1048576: NARROWER than '..Said'. Prove '..Said' where nothing that the law and all that it calls make is longer than what came in: it says more and counts as full. Else prove '..UptoSaid'. A law counts once. -/
mutual
def uptoBulk {H : Type} : DataW H → Nat
  | .lit (.string bytes) => bytes.length + 1
  | .lit _ => 1
  | .nil => 1
  | .ptr d => uptoBulk d + 1
  | .slice elems spare => uptoBulkAll elems + uptoBulkAll spare + 1
  | .agg parts => uptoBulkAll parts + 1
  | .iface _ d => uptoBulk d + 1
  | .map entries => uptoBulkEntries entries + 1
  | .held _ => 1
def uptoBulkAll {H : Type} : List (DataW H) → Nat
  | [] => 0
  | d :: r => uptoBulk d + uptoBulkAll r
def uptoBulkEntries {H : Type} : List (Lit × DataW H) → Nat
  | [] => 0
  | x :: r => uptoBulkEntry x + uptoBulkEntries r
def uptoBulkEntry {H : Type} : Lit × DataW H → Nat
  | (.string bytes, d) => bytes.length + uptoBulk d + 1
  | (_, d) => uptoBulk d + 1
 end
def uptoSmall : (H : Type) → List (DataW H) → Bool := fun _ ds => decide (uptoBulkAll ds ≤ 1048576)
def OpenSpec.upto (s : _root_.Go.ChangeSpec) : _root_.Go.OpenSpec := { _root_.Go.OpenSpec.ofChange s with cond := some uptoSmall }

/-- 'drumlinlaw03.OrdmapStops', WHERE WHAT IT READS IS OF BULK AT MOST 1048576: true; the input reads as it did. -/
def ordmapStopsUptoRow : OpenClaim := { program := "ytbhkigjmjmfbgaa", sum := "900dc80bb5a36899a87fd4d39839324896a6fbc99ffd3c9773dc6b84796f2b4a", func := "drumlin/drumlinlaw03.OrdmapStops", spec := "ordmapStops", inPlace := ["slices.overlaps[drumlin/ordmap.item[int, int]]", "slices.overlaps[drumlin/ordmap.item[int, string]]"], unfollowed := true, recurses := true, apart := false, narrowed := true }
def OrdmapStopsUptoSaid : Prop := ordmapStopsUptoRow.holds Try.pinned (OpenSpec.upto ordmapStopsSpec)

/-- 'drumlinlaw03.OrdmapTypes', WHERE WHAT IT READS IS OF BULK AT MOST 1048576: true; the input reads as it did. -/
def ordmapTypesUptoRow : OpenClaim := { program := "ytbhkigjmjmfbgaa", sum := "900dc80bb5a36899a87fd4d39839324896a6fbc99ffd3c9773dc6b84796f2b4a", func := "drumlin/drumlinlaw03.OrdmapTypes", spec := "ordmapTypes", inPlace := ["slices.overlaps[drumlin/ordmap.item[byte, drumlin/drumlinlaw03.pair]]", "slices.overlaps[drumlin/ordmap.item[uint8, *int]]", "slices.overlaps[drumlin/ordmap.item[int, string]]"], unfollowed := true, recurses := true, apart := false, narrowed := true }
def OrdmapTypesUptoSaid : Prop := ordmapTypesUptoRow.holds Try.pinned (OpenSpec.upto ordmapTypesSpec)

/-- 'drumlinlaw03.OrdmapPlays', WHERE WHAT IT READS IS OF BULK AT MOST 1048576: true; the input reads as it did. -/
def ordmapPlaysUptoRow : OpenClaim := { program := "ytbhkigjmjmfbgaa", sum := "900dc80bb5a36899a87fd4d39839324896a6fbc99ffd3c9773dc6b84796f2b4a", func := "drumlin/drumlinlaw03.OrdmapPlays", spec := "ordmapPlays", inPlace := ["slices.overlaps[drumlin/ordmap.item[int, string]]", "slices.overlaps[drumlin/ordmap.item[string, string]]"], unfollowed := true, recurses := true, apart := false, narrowed := true }
def OrdmapPlaysUptoSaid : Prop := ordmapPlaysUptoRow.holds Try.pinned (OpenSpec.upto ordmapPlaysSpec)

/-- 'drumlinlaw03.OrdmapNil', WHERE WHAT IT READS IS OF BULK AT MOST 1048576: true; the input reads as it did. -/
def ordmapNilUptoRow : OpenClaim := { program := "ytbhkigjmjmfbgaa", sum := "900dc80bb5a36899a87fd4d39839324896a6fbc99ffd3c9773dc6b84796f2b4a", func := "drumlin/drumlinlaw03.OrdmapNil", spec := "ordmapNil", inPlace := ["slices.overlaps[drumlin/ordmap.item[int, string]]", "slices.overlaps[drumlin/ordmap.item[string, string]]"], unfollowed := true, recurses := true, apart := false, narrowed := true }
def OrdmapNilUptoSaid : Prop := ordmapNilUptoRow.holds Try.pinned (OpenSpec.upto ordmapNilSpec)

/-- 'drumlinlaw03.OrdmapCopies', WHERE WHAT IT READS IS OF BULK AT MOST 1048576: true; the input reads as it did. -/
def ordmapCopiesUptoRow : OpenClaim := { program := "ytbhkigjmjmfbgaa", sum := "900dc80bb5a36899a87fd4d39839324896a6fbc99ffd3c9773dc6b84796f2b4a", func := "drumlin/drumlinlaw03.OrdmapCopies", spec := "ordmapCopies", inPlace := ["slices.overlaps[drumlin/ordmap.item[int, int]]", "slices.overlaps[drumlin/ordmap.item[int, string]]"], unfollowed := true, recurses := true, apart := false, narrowed := true }
def OrdmapCopiesUptoSaid : Prop := ordmapCopiesUptoRow.holds Try.pinned (OpenSpec.upto ordmapCopiesSpec)

/-- 'drumlinlaw03.OrdmapMap', WHERE WHAT IT READS IS OF BULK AT MOST 1048576: true; the input reads as it did. -/
def ordmapMapUptoRow : OpenClaim := { program := "ytbhkigjmjmfbgaa", sum := "900dc80bb5a36899a87fd4d39839324896a6fbc99ffd3c9773dc6b84796f2b4a", func := "drumlin/drumlinlaw03.OrdmapMap", spec := "ordmapMap", inPlace := ["slices.overlaps[drumlin/ordmap.item[int, int]]", "slices.overlaps[drumlin/ordmap.item[int, string]]"], unfollowed := true, recurses := true, apart := false, narrowed := true }
def OrdmapMapUptoSaid : Prop := ordmapMapUptoRow.holds Try.pinned (OpenSpec.upto ordmapMapSpec)

/-- 'drumlinlaw03.OrdmapOrder', WHERE WHAT IT READS IS OF BULK AT MOST 1048576: true; the input reads as it did. -/
def ordmapOrderUptoRow : OpenClaim := { program := "ytbhkigjmjmfbgaa", sum := "900dc80bb5a36899a87fd4d39839324896a6fbc99ffd3c9773dc6b84796f2b4a", func := "drumlin/drumlinlaw03.OrdmapOrder", spec := "ordmapOrder", inPlace := ["slices.overlaps[drumlin/ordmap.item[int, int]]", "slices.overlaps[drumlin/ordmap.item[int, string]]"], unfollowed := true, recurses := true, apart := false, narrowed := true }
def OrdmapOrderUptoSaid : Prop := ordmapOrderUptoRow.holds Try.pinned (OpenSpec.upto ordmapOrderSpec)

end Rows
end Go.Proofs.Ytbhkigjmjmfbgaa
