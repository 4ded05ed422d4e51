/-
  No cell of these rows narrows 'for every input' (looked for: loops, veiled, ifaces, maps, wideKeys, modest, calm, conditions, laid).
  DERIVED. THE GIVEN ROWS OF THIS SEAT. 12 by the template 'for every input the law returns true; each argument reads behind the call as it read before'; 0 by the template 'total and deterministic' (their statements: YtndknnhgdlgbgaaTotals.lean).
  GIVEN WITH THE SEED: the statements are not yours to turn. If you find one false, say at which input.
  Laid BY PROGRAM, IN A SANDBOX (cutbox-rows.mjs): the forced cells as the released guide's own fill.sh prints them over the translation 49c3b45b83484a5b… (all of the seat's roots in one cut). By AI agents, Wed Nov 11 2026. No macro, syntax, notation, axiom, sorry.
-/
import Derived.Test.YtndknnhgdlgbgaaChecked
import GoSem.Claim
import GoSem.ClaimJoined
import GoSem.ClaimMapViews
import Derived.JoinedTies
import Derived.KernelRfl
namespace Go.Proofs.Ytndknnhgdlgbgaa
/- THE CELL 'sum', in the pinned program and in every row, IS THE sha256 OF THE DUMP (.gsa) THAT YtndknnhgdlgbgaaProg.lean LOADS. Nothing in Lean hashes anything: it is a label: what it is worth is what the hold of that sum in a sandbox is worth. -/
noncomputable def Try.pinned : Pinned := { name := "ytndknnhgdlgbgaa", sum := "49c3b45b83484a5b707a1f453cf2dcd9c93eff180157206cebfcaf7ecdce97da", checked := Try.checked }
namespace Rows
def none {H : Type} : Left H := { results := [], args := [] }

/-- 'drumlinlaw23.LedgerAdds': WHATEVER THE INPUT: true; the input reads as it did. -/
def ledgerAddsSpec : ChangeSpec := { name := "ledgerAdds", fn := fun _ => fun
  | [d1, d2] => { results := [.lit (.bool true)], args := [d1, d2] }
  | _ => none }
def ledgerAddsRow : OpenClaim := { program := "ytndknnhgdlgbgaa", sum := "49c3b45b83484a5b707a1f453cf2dcd9c93eff180157206cebfcaf7ecdce97da", func := "drumlin/drumlinlaw23.LedgerAdds", spec := "ledgerAdds", inPlace := ["internal/bytealg.IndexByteString", "internal/bytealg.IndexString", "slices.overlaps[drumlin/api.Entry]", "slices.overlaps[drumlin/ordmap.item[string, drumlin/index.list]]"], unfollowed := true, recurses := true, named := ["internal/bytealg.MaxLen"], apart := false }
def LedgerAddsSaid : Prop := ledgerAddsRow.holds Try.pinned (OpenSpec.ofChange ledgerAddsSpec)

/-- ITS FALSE NEIGHBOUR: 'it returns false'. Refute it at one input. -/
def ledgerAddsWrong : ChangeSpec := { name := "ledgerAdds", fn := fun _ => fun
  | [d1, d2] => { results := [.lit (.bool false)], args := [d1, d2] }
  | _ => none }
def LedgerAddsWrongFalsely : Prop := ledgerAddsRow.holds Try.pinned (OpenSpec.ofChange ledgerAddsWrong)

/-- 'drumlinlaw23.LedgerCounts': WHATEVER THE INPUT: true; the input reads as it did. -/
def ledgerCountsSpec : ChangeSpec := { name := "ledgerCounts", fn := fun _ => fun
  | [d1, d2, d3] => { results := [.lit (.bool true)], args := [d1, d2, d3] }
  | _ => none }
def ledgerCountsRow : OpenClaim := { program := "ytndknnhgdlgbgaa", sum := "49c3b45b83484a5b707a1f453cf2dcd9c93eff180157206cebfcaf7ecdce97da", func := "drumlin/drumlinlaw23.LedgerCounts", spec := "ledgerCounts", inPlace := ["internal/bytealg.IndexByteString", "internal/bytealg.IndexString", "slices.overlaps[drumlin/api.Entry]", "slices.overlaps[drumlin/ordmap.item[string, drumlin/index.list]]"], unfollowed := true, recurses := true, named := ["internal/bytealg.MaxLen"], apart := false }
def LedgerCountsSaid : Prop := ledgerCountsRow.holds Try.pinned (OpenSpec.ofChange ledgerCountsSpec)

/-- ITS FALSE NEIGHBOUR: 'it returns false'. Refute it at one input. -/
def ledgerCountsWrong : ChangeSpec := { name := "ledgerCounts", fn := fun _ => fun
  | [d1, d2, d3] => { results := [.lit (.bool false)], args := [d1, d2, d3] }
  | _ => none }
def LedgerCountsWrongFalsely : Prop := ledgerCountsRow.holds Try.pinned (OpenSpec.ofChange ledgerCountsWrong)

/-- 'drumlinlaw23.LedgerNewest': WHATEVER THE INPUT: true; the input reads as it did. -/
def ledgerNewestSpec : ChangeSpec := { name := "ledgerNewest", fn := fun _ => fun
  | [d] => { results := [.lit (.bool true)], args := [d] }
  | _ => none }
def ledgerNewestRow : OpenClaim := { program := "ytndknnhgdlgbgaa", sum := "49c3b45b83484a5b707a1f453cf2dcd9c93eff180157206cebfcaf7ecdce97da", func := "drumlin/drumlinlaw23.LedgerNewest", spec := "ledgerNewest", inPlace := ["internal/bytealg.IndexByteString", "internal/bytealg.IndexString", "slices.overlaps[drumlin/api.Entry]", "slices.overlaps[drumlin/ordmap.item[string, drumlin/index.list]]"], unfollowed := true, recurses := true, named := ["internal/bytealg.MaxLen"], apart := false }
def LedgerNewestSaid : Prop := ledgerNewestRow.holds Try.pinned (OpenSpec.ofChange ledgerNewestSpec)

/-- ITS FALSE NEIGHBOUR: 'it returns false'. Refute it at one input. -/
def ledgerNewestWrong : ChangeSpec := { name := "ledgerNewest", fn := fun _ => fun
  | [d] => { results := [.lit (.bool false)], args := [d] }
  | _ => none }
def LedgerNewestWrongFalsely : Prop := ledgerNewestRow.holds Try.pinned (OpenSpec.ofChange ledgerNewestWrong)

/-- 'drumlinlaw23.LedgerSums': WHATEVER THE INPUT: true; the input reads as it did. -/
def ledgerSumsSpec : ChangeSpec := { name := "ledgerSums", fn := fun _ => fun
  | [d] => { results := [.lit (.bool true)], args := [d] }
  | _ => none }
def ledgerSumsRow : OpenClaim := { program := "ytndknnhgdlgbgaa", sum := "49c3b45b83484a5b707a1f453cf2dcd9c93eff180157206cebfcaf7ecdce97da", func := "drumlin/drumlinlaw23.LedgerSums", spec := "ledgerSums", inPlace := ["internal/bytealg.IndexByteString", "internal/bytealg.IndexString", "slices.overlaps[drumlin/api.Entry]", "slices.overlaps[drumlin/ordmap.item[string, drumlin/index.list]]"], unfollowed := true, recurses := true, named := ["internal/bytealg.MaxLen"], apart := false }
def LedgerSumsSaid : Prop := ledgerSumsRow.holds Try.pinned (OpenSpec.ofChange ledgerSumsSpec)

/-- ITS FALSE NEIGHBOUR: 'it returns false'. Refute it at one input. -/
def ledgerSumsWrong : ChangeSpec := { name := "ledgerSums", fn := fun _ => fun
  | [d] => { results := [.lit (.bool false)], args := [d] }
  | _ => none }
def LedgerSumsWrongFalsely : Prop := ledgerSumsRow.holds Try.pinned (OpenSpec.ofChange ledgerSumsWrong)

/-- 'drumlinlaw21.IndexViews': WHATEVER THE INPUT: true; the input reads as it did. -/
def indexViewsSpec : ChangeSpec := { name := "indexViews", fn := fun _ => fun
  | [d] => { results := [.lit (.bool true)], args := [d] }
  | _ => none }
def indexViewsRow : OpenClaim := { program := "ytndknnhgdlgbgaa", sum := "49c3b45b83484a5b707a1f453cf2dcd9c93eff180157206cebfcaf7ecdce97da", func := "drumlin/drumlinlaw21.IndexViews", spec := "indexViews", inPlace := ["slices.overlaps[drumlin/ordmap.item[string, drumlin/index.list]]", "internal/bytealg.IndexByteString", "internal/bytealg.IndexString", "slices.overlaps[drumlin/api.Entry]"], unfollowed := true, recurses := true, named := ["internal/bytealg.MaxLen"], apart := false }
def IndexViewsSaid : Prop := indexViewsRow.holds Try.pinned (OpenSpec.ofChange indexViewsSpec)

/-- ITS FALSE NEIGHBOUR: 'it returns false'. Refute it at one input. -/
def indexViewsWrong : ChangeSpec := { name := "indexViews", fn := fun _ => fun
  | [d] => { results := [.lit (.bool false)], args := [d] }
  | _ => none }
def IndexViewsWrongFalsely : Prop := indexViewsRow.holds Try.pinned (OpenSpec.ofChange indexViewsWrong)

/-- 'drumlinlaw21.IndexDrops': WHATEVER THE INPUT: true; the input reads as it did. -/
def indexDropsSpec : ChangeSpec := { name := "indexDrops", fn := fun _ => fun
  | [d1, d2] => { results := [.lit (.bool true)], args := [d1, d2] }
  | _ => none }
def indexDropsRow : OpenClaim := { program := "ytndknnhgdlgbgaa", sum := "49c3b45b83484a5b707a1f453cf2dcd9c93eff180157206cebfcaf7ecdce97da", func := "drumlin/drumlinlaw21.IndexDrops", spec := "indexDrops", inPlace := ["slices.overlaps[drumlin/ordmap.item[string, drumlin/index.list]]", "internal/bytealg.IndexByteString", "internal/bytealg.IndexString", "slices.overlaps[drumlin/api.Entry]"], unfollowed := true, recurses := true, named := ["internal/bytealg.MaxLen"], apart := false }
def IndexDropsSaid : Prop := indexDropsRow.holds Try.pinned (OpenSpec.ofChange indexDropsSpec)

/-- ITS FALSE NEIGHBOUR: 'it returns false'. Refute it at one input. -/
def indexDropsWrong : ChangeSpec := { name := "indexDrops", fn := fun _ => fun
  | [d1, d2] => { results := [.lit (.bool false)], args := [d1, d2] }
  | _ => none }
def IndexDropsWrongFalsely : Prop := indexDropsRow.holds Try.pinned (OpenSpec.ofChange indexDropsWrong)

/-- 'drumlinlaw21.IndexPlays': WHATEVER THE INPUT: true; the input reads as it did. -/
def indexPlaysSpec : ChangeSpec := { name := "indexPlays", fn := fun _ => fun
  | [d1, d2] => { results := [.lit (.bool true)], args := [d1, d2] }
  | _ => none }
def indexPlaysRow : OpenClaim := { program := "ytndknnhgdlgbgaa", sum := "49c3b45b83484a5b707a1f453cf2dcd9c93eff180157206cebfcaf7ecdce97da", func := "drumlin/drumlinlaw21.IndexPlays", spec := "indexPlays", inPlace := ["internal/bytealg.IndexByteString", "internal/bytealg.IndexString", "slices.overlaps[drumlin/api.Entry]", "slices.overlaps[drumlin/ordmap.item[string, drumlin/index.list]]"], unfollowed := true, recurses := true, named := ["internal/bytealg.MaxLen"], apart := false }
def IndexPlaysSaid : Prop := indexPlaysRow.holds Try.pinned (OpenSpec.ofChange indexPlaysSpec)

/-- ITS FALSE NEIGHBOUR: 'it returns false'. Refute it at one input. -/
def indexPlaysWrong : ChangeSpec := { name := "indexPlays", fn := fun _ => fun
  | [d1, d2] => { results := [.lit (.bool false)], args := [d1, d2] }
  | _ => none }
def IndexPlaysWrongFalsely : Prop := indexPlaysRow.holds Try.pinned (OpenSpec.ofChange indexPlaysWrong)

/-- 'drumlinlaw28.CursorKeeps': WHATEVER THE INPUT: true; the input reads as it did. -/
def cursorKeepsSpec : ChangeSpec := { name := "cursorKeeps", fn := fun _ => fun
  | [d1, d2] => { results := [.lit (.bool true)], args := [d1, d2] }
  | _ => none }
def cursorKeepsRow : OpenClaim := { program := "ytndknnhgdlgbgaa", sum := "49c3b45b83484a5b707a1f453cf2dcd9c93eff180157206cebfcaf7ecdce97da", func := "drumlin/drumlinlaw28.CursorKeeps", spec := "cursorKeeps", inPlace := ["internal/bytealg.IndexByteString", "internal/bytealg.IndexString", "slices.overlaps[drumlin/api.Entry]", "slices.overlaps[drumlin/ordmap.item[string, drumlin/index.list]]"], unfollowed := true, recurses := true, named := ["internal/bytealg.MaxLen"], apart := false }
def CursorKeepsSaid : Prop := cursorKeepsRow.holds Try.pinned (OpenSpec.ofChange cursorKeepsSpec)

/-- ITS FALSE NEIGHBOUR: 'it returns false'. Refute it at one input. -/
def cursorKeepsWrong : ChangeSpec := { name := "cursorKeeps", fn := fun _ => fun
  | [d1, d2] => { results := [.lit (.bool false)], args := [d1, d2] }
  | _ => none }
def CursorKeepsWrongFalsely : Prop := cursorKeepsRow.holds Try.pinned (OpenSpec.ofChange cursorKeepsWrong)

/-- 'drumlinlaw28.CursorStays': WHATEVER THE INPUT: true; the input reads as it did. -/
def cursorStaysSpec : ChangeSpec := { name := "cursorStays", fn := fun _ => fun
  | [d1, d2, d3, d4, d5] => { results := [.lit (.bool true)], args := [d1, d2, d3, d4, d5] }
  | _ => none }
def cursorStaysRow : OpenClaim := { program := "ytndknnhgdlgbgaa", sum := "49c3b45b83484a5b707a1f453cf2dcd9c93eff180157206cebfcaf7ecdce97da", func := "drumlin/drumlinlaw28.CursorStays", spec := "cursorStays", inPlace := ["internal/bytealg.IndexByteString", "internal/bytealg.IndexString", "slices.overlaps[drumlin/api.Entry]", "slices.overlaps[drumlin/ordmap.item[string, drumlin/index.list]]"], unfollowed := true, recurses := true, named := ["internal/bytealg.MaxLen"], apart := false }
def CursorStaysSaid : Prop := cursorStaysRow.holds Try.pinned (OpenSpec.ofChange cursorStaysSpec)

/-- ITS FALSE NEIGHBOUR: 'it returns false'. Refute it at one input. -/
def cursorStaysWrong : ChangeSpec := { name := "cursorStays", fn := fun _ => fun
  | [d1, d2, d3, d4, d5] => { results := [.lit (.bool false)], args := [d1, d2, d3, d4, d5] }
  | _ => none }
def CursorStaysWrongFalsely : Prop := cursorStaysRow.holds Try.pinned (OpenSpec.ofChange cursorStaysWrong)

/-- 'drumlinlaw23.LedgerDrops': WHATEVER THE INPUT: true; the input reads as it did. -/
def ledgerDropsSpec : ChangeSpec := { name := "ledgerDrops", fn := fun _ => fun
  | [d1, d2] => { results := [.lit (.bool true)], args := [d1, d2] }
  | _ => none }
def ledgerDropsRow : OpenClaim := { program := "ytndknnhgdlgbgaa", sum := "49c3b45b83484a5b707a1f453cf2dcd9c93eff180157206cebfcaf7ecdce97da", func := "drumlin/drumlinlaw23.LedgerDrops", spec := "ledgerDrops", inPlace := ["internal/bytealg.IndexByteString", "internal/bytealg.IndexString", "slices.overlaps[drumlin/api.Entry]", "slices.overlaps[drumlin/ordmap.item[string, drumlin/index.list]]"], unfollowed := true, recurses := true, named := ["internal/bytealg.MaxLen"], apart := false }
def LedgerDropsSaid : Prop := ledgerDropsRow.holds Try.pinned (OpenSpec.ofChange ledgerDropsSpec)

/-- ITS FALSE NEIGHBOUR: 'it returns false'. Refute it at one input. -/
def ledgerDropsWrong : ChangeSpec := { name := "ledgerDrops", fn := fun _ => fun
  | [d1, d2] => { results := [.lit (.bool false)], args := [d1, d2] }
  | _ => none }
def LedgerDropsWrongFalsely : Prop := ledgerDropsRow.holds Try.pinned (OpenSpec.ofChange ledgerDropsWrong)

/-- 'drumlinlaw22.KeydirMap': WHATEVER THE INPUT: true; the input reads as it did. -/
def keydirMapSpec : ChangeSpec := { name := "keydirMap", fn := fun _ => fun
  | [d1, d2] => { results := [.lit (.bool true)], args := [d1, d2] }
  | _ => none }
def keydirMapRow : OpenClaim := { program := "ytndknnhgdlgbgaa", sum := "49c3b45b83484a5b707a1f453cf2dcd9c93eff180157206cebfcaf7ecdce97da", func := "drumlin/drumlinlaw22.KeydirMap", spec := "keydirMap", inPlace := ["internal/bytealg.IndexByteString", "internal/bytealg.IndexString", "slices.overlaps[drumlin/api.Entry]", "slices.overlaps[drumlin/ordmap.item[string, drumlin/index.list]]"], unfollowed := true, recurses := true, named := ["internal/bytealg.MaxLen"], apart := false }
def KeydirMapSaid : Prop := keydirMapRow.holds Try.pinned (OpenSpec.ofChange keydirMapSpec)

/-- ITS FALSE NEIGHBOUR: 'it returns false'. Refute it at one input. -/
def keydirMapWrong : ChangeSpec := { name := "keydirMap", fn := fun _ => fun
  | [d1, d2] => { results := [.lit (.bool false)], args := [d1, d2] }
  | _ => none }
def KeydirMapWrongFalsely : Prop := keydirMapRow.holds Try.pinned (OpenSpec.ofChange keydirMapWrong)

/-- 'drumlinlaw22.KeydirShadows': WHATEVER THE INPUT: true; the input reads as it did. -/
def keydirShadowsSpec : ChangeSpec := { name := "keydirShadows", fn := fun _ => fun
  | [d1, d2] => { results := [.lit (.bool true)], args := [d1, d2] }
  | _ => none }
def keydirShadowsRow : OpenClaim := { program := "ytndknnhgdlgbgaa", sum := "49c3b45b83484a5b707a1f453cf2dcd9c93eff180157206cebfcaf7ecdce97da", func := "drumlin/drumlinlaw22.KeydirShadows", spec := "keydirShadows", inPlace := ["internal/bytealg.IndexByteString", "internal/bytealg.IndexString", "slices.overlaps[drumlin/api.Entry]", "slices.overlaps[drumlin/ordmap.item[string, drumlin/index.list]]"], unfollowed := true, recurses := true, named := ["internal/bytealg.MaxLen"], apart := false }
def KeydirShadowsSaid : Prop := keydirShadowsRow.holds Try.pinned (OpenSpec.ofChange keydirShadowsSpec)

/-- ITS FALSE NEIGHBOUR: 'it returns false'. Refute it at one input. -/
def keydirShadowsWrong : ChangeSpec := { name := "keydirShadows", fn := fun _ => fun
  | [d1, d2] => { results := [.lit (.bool false)], args := [d1, d2] }
  | _ => none }
def KeydirShadowsWrongFalsely : Prop := keydirShadowsRow.holds Try.pinned (OpenSpec.ofChange keydirShadowsWrong)

/- THE SECOND FORM. 'bulk': how many values and letters a reading holds, each counted each time it is reached (what is shared counts as often as it is met; a slice's spare places count too). A statement '..UptoSaid' is the law's where the arguments, and the package variables that the reading takes, are together of bulk at most 1048576: NARROWER than '..Said'. Prove '..Said' where nothing that the law and all that it calls make is longer than what came in: it says more and counts as full. Else prove '..UptoSaid'. A law counts once. -/
mutual
def uptoBulk {H : Type} : DataW H → Nat
  | .lit (.string bytes) => bytes.length + 1
  | .lit _ => 1
  | .nil => 1
  | .ptr d => uptoBulk d + 1
  | .slice elems spare => uptoBulkAll elems + uptoBulkAll spare + 1
  | .agg parts => uptoBulkAll parts + 1
  | .iface _ d => uptoBulk d + 1
  | .map entries => uptoBulkEntries entries + 1
  | .held _ => 1
def uptoBulkAll {H : Type} : List (DataW H) → Nat
  | [] => 0
  | d :: r => uptoBulk d + uptoBulkAll r
def uptoBulkEntries {H : Type} : List (Lit × DataW H) → Nat
  | [] => 0
  | x :: r => uptoBulkEntry x + uptoBulkEntries r
def uptoBulkEntry {H : Type} : Lit × DataW H → Nat
  | (.string bytes, d) => bytes.length + uptoBulk d + 1
  | (_, d) => uptoBulk d + 1
 end
def uptoSmall : (H : Type) → List (DataW H) → Bool := fun _ ds => decide (uptoBulkAll ds ≤ 1048576)
def OpenSpec.upto (s : _root_.Go.ChangeSpec) : _root_.Go.OpenSpec := { _root_.Go.OpenSpec.ofChange s with cond := some uptoSmall }

/-- 'drumlinlaw23.LedgerAdds', WHERE WHAT IT READS IS OF BULK AT MOST 1048576: true; the input reads as it did. -/
def ledgerAddsUptoRow : OpenClaim := { program := "ytndknnhgdlgbgaa", sum := "49c3b45b83484a5b707a1f453cf2dcd9c93eff180157206cebfcaf7ecdce97da", func := "drumlin/drumlinlaw23.LedgerAdds", spec := "ledgerAdds", inPlace := ["internal/bytealg.IndexByteString", "internal/bytealg.IndexString", "slices.overlaps[drumlin/api.Entry]", "slices.overlaps[drumlin/ordmap.item[string, drumlin/index.list]]"], unfollowed := true, recurses := true, named := ["internal/bytealg.MaxLen"], apart := false, narrowed := true }
def LedgerAddsUptoSaid : Prop := ledgerAddsUptoRow.holds Try.pinned (OpenSpec.upto ledgerAddsSpec)

/-- 'drumlinlaw23.LedgerCounts', WHERE WHAT IT READS IS OF BULK AT MOST 1048576: true; the input reads as it did. -/
def ledgerCountsUptoRow : OpenClaim := { program := "ytndknnhgdlgbgaa", sum := "49c3b45b83484a5b707a1f453cf2dcd9c93eff180157206cebfcaf7ecdce97da", func := "drumlin/drumlinlaw23.LedgerCounts", spec := "ledgerCounts", inPlace := ["internal/bytealg.IndexByteString", "internal/bytealg.IndexString", "slices.overlaps[drumlin/api.Entry]", "slices.overlaps[drumlin/ordmap.item[string, drumlin/index.list]]"], unfollowed := true, recurses := true, named := ["internal/bytealg.MaxLen"], apart := false, narrowed := true }
def LedgerCountsUptoSaid : Prop := ledgerCountsUptoRow.holds Try.pinned (OpenSpec.upto ledgerCountsSpec)

/-- 'drumlinlaw23.LedgerNewest', WHERE WHAT IT READS IS OF BULK AT MOST 1048576: true; the input reads as it did. -/
def ledgerNewestUptoRow : OpenClaim := { program := "ytndknnhgdlgbgaa", sum := "49c3b45b83484a5b707a1f453cf2dcd9c93eff180157206cebfcaf7ecdce97da", func := "drumlin/drumlinlaw23.LedgerNewest", spec := "ledgerNewest", inPlace := ["internal/bytealg.IndexByteString", "internal/bytealg.IndexString", "slices.overlaps[drumlin/api.Entry]", "slices.overlaps[drumlin/ordmap.item[string, drumlin/index.list]]"], unfollowed := true, recurses := true, named := ["internal/bytealg.MaxLen"], apart := false, narrowed := true }
def LedgerNewestUptoSaid : Prop := ledgerNewestUptoRow.holds Try.pinned (OpenSpec.upto ledgerNewestSpec)

/-- 'drumlinlaw23.LedgerSums', WHERE WHAT IT READS IS OF BULK AT MOST 1048576: true; the input reads as it did. -/
def ledgerSumsUptoRow : OpenClaim := { program := "ytndknnhgdlgbgaa", sum := "49c3b45b83484a5b707a1f453cf2dcd9c93eff180157206cebfcaf7ecdce97da", func := "drumlin/drumlinlaw23.LedgerSums", spec := "ledgerSums", inPlace := ["internal/bytealg.IndexByteString", "internal/bytealg.IndexString", "slices.overlaps[drumlin/api.Entry]", "slices.overlaps[drumlin/ordmap.item[string, drumlin/index.list]]"], unfollowed := true, recurses := true, named := ["internal/bytealg.MaxLen"], apart := false, narrowed := true }
def LedgerSumsUptoSaid : Prop := ledgerSumsUptoRow.holds Try.pinned (OpenSpec.upto ledgerSumsSpec)

/-- 'drumlinlaw21.IndexViews', WHERE WHAT IT READS IS OF BULK AT MOST 1048576: true; the input reads as it did. -/
def indexViewsUptoRow : OpenClaim := { program := "ytndknnhgdlgbgaa", sum := "49c3b45b83484a5b707a1f453cf2dcd9c93eff180157206cebfcaf7ecdce97da", func := "drumlin/drumlinlaw21.IndexViews", spec := "indexViews", inPlace := ["slices.overlaps[drumlin/ordmap.item[string, drumlin/index.list]]", "internal/bytealg.IndexByteString", "internal/bytealg.IndexString", "slices.overlaps[drumlin/api.Entry]"], unfollowed := true, recurses := true, named := ["internal/bytealg.MaxLen"], apart := false, narrowed := true }
def IndexViewsUptoSaid : Prop := indexViewsUptoRow.holds Try.pinned (OpenSpec.upto indexViewsSpec)

/-- 'drumlinlaw21.IndexDrops', WHERE WHAT IT READS IS OF BULK AT MOST 1048576: true; the input reads as it did. -/
def indexDropsUptoRow : OpenClaim := { program := "ytndknnhgdlgbgaa", sum := "49c3b45b83484a5b707a1f453cf2dcd9c93eff180157206cebfcaf7ecdce97da", func := "drumlin/drumlinlaw21.IndexDrops", spec := "indexDrops", inPlace := ["slices.overlaps[drumlin/ordmap.item[string, drumlin/index.list]]", "internal/bytealg.IndexByteString", "internal/bytealg.IndexString", "slices.overlaps[drumlin/api.Entry]"], unfollowed := true, recurses := true, named := ["internal/bytealg.MaxLen"], apart := false, narrowed := true }
def IndexDropsUptoSaid : Prop := indexDropsUptoRow.holds Try.pinned (OpenSpec.upto indexDropsSpec)

/-- 'drumlinlaw21.IndexPlays', WHERE WHAT IT READS IS OF BULK AT MOST 1048576: true; the input reads as it did. -/
def indexPlaysUptoRow : OpenClaim := { program := "ytndknnhgdlgbgaa", sum := "49c3b45b83484a5b707a1f453cf2dcd9c93eff180157206cebfcaf7ecdce97da", func := "drumlin/drumlinlaw21.IndexPlays", spec := "indexPlays", inPlace := ["internal/bytealg.IndexByteString", "internal/bytealg.IndexString", "slices.overlaps[drumlin/api.Entry]", "slices.overlaps[drumlin/ordmap.item[string, drumlin/index.list]]"], unfollowed := true, recurses := true, named := ["internal/bytealg.MaxLen"], apart := false, narrowed := true }
def IndexPlaysUptoSaid : Prop := indexPlaysUptoRow.holds Try.pinned (OpenSpec.upto indexPlaysSpec)

/-- 'drumlinlaw28.CursorKeeps', WHERE WHAT IT READS IS OF BULK AT MOST 1048576: true; the input reads as it did. -/
def cursorKeepsUptoRow : OpenClaim := { program := "ytndknnhgdlgbgaa", sum := "49c3b45b83484a5b707a1f453cf2dcd9c93eff180157206cebfcaf7ecdce97da", func := "drumlin/drumlinlaw28.CursorKeeps", spec := "cursorKeeps", inPlace := ["internal/bytealg.IndexByteString", "internal/bytealg.IndexString", "slices.overlaps[drumlin/api.Entry]", "slices.overlaps[drumlin/ordmap.item[string, drumlin/index.list]]"], unfollowed := true, recurses := true, named := ["internal/bytealg.MaxLen"], apart := false, narrowed := true }
def CursorKeepsUptoSaid : Prop := cursorKeepsUptoRow.holds Try.pinned (OpenSpec.upto cursorKeepsSpec)

/-- 'drumlinlaw28.CursorStays', WHERE WHAT IT READS IS OF BULK AT MOST 1048576: true; the input reads as it did. -/
def cursorStaysUptoRow : OpenClaim := { program := "ytndknnhgdlgbgaa", sum := "49c3b45b83484a5b707a1f453cf2dcd9c93eff180157206cebfcaf7ecdce97da", func := "drumlin/drumlinlaw28.CursorStays", spec := "cursorStays", inPlace := ["internal/bytealg.IndexByteString", "internal/bytealg.IndexString", "slices.overlaps[drumlin/api.Entry]", "slices.overlaps[drumlin/ordmap.item[string, drumlin/index.list]]"], unfollowed := true, recurses := true, named := ["internal/bytealg.MaxLen"], apart := false, narrowed := true }
def CursorStaysUptoSaid : Prop := cursorStaysUptoRow.holds Try.pinned (OpenSpec.upto cursorStaysSpec)

/-- 'drumlinlaw23.LedgerDrops', WHERE WHAT IT READS IS OF BULK AT MOST 1048576: true; the input reads as it did. -/
def ledgerDropsUptoRow : OpenClaim := { program := "ytndknnhgdlgbgaa", sum := "49c3b45b83484a5b707a1f453cf2dcd9c93eff180157206cebfcaf7ecdce97da", func := "drumlin/drumlinlaw23.LedgerDrops", spec := "ledgerDrops", inPlace := ["internal/bytealg.IndexByteString", "internal/bytealg.IndexString", "slices.overlaps[drumlin/api.Entry]", "slices.overlaps[drumlin/ordmap.item[string, drumlin/index.list]]"], unfollowed := true, recurses := true, named := ["internal/bytealg.MaxLen"], apart := false, narrowed := true }
def LedgerDropsUptoSaid : Prop := ledgerDropsUptoRow.holds Try.pinned (OpenSpec.upto ledgerDropsSpec)

/-- 'drumlinlaw22.KeydirMap', WHERE WHAT IT READS IS OF BULK AT MOST 1048576: true; the input reads as it did. -/
def keydirMapUptoRow : OpenClaim := { program := "ytndknnhgdlgbgaa", sum := "49c3b45b83484a5b707a1f453cf2dcd9c93eff180157206cebfcaf7ecdce97da", func := "drumlin/drumlinlaw22.KeydirMap", spec := "keydirMap", inPlace := ["internal/bytealg.IndexByteString", "internal/bytealg.IndexString", "slices.overlaps[drumlin/api.Entry]", "slices.overlaps[drumlin/ordmap.item[string, drumlin/index.list]]"], unfollowed := true, recurses := true, named := ["internal/bytealg.MaxLen"], apart := false, narrowed := true }
def KeydirMapUptoSaid : Prop := keydirMapUptoRow.holds Try.pinned (OpenSpec.upto keydirMapSpec)

/-- 'drumlinlaw22.KeydirShadows', WHERE WHAT IT READS IS OF BULK AT MOST 1048576: true; the input reads as it did. -/
def keydirShadowsUptoRow : OpenClaim := { program := "ytndknnhgdlgbgaa", sum := "49c3b45b83484a5b707a1f453cf2dcd9c93eff180157206cebfcaf7ecdce97da", func := "drumlin/drumlinlaw22.KeydirShadows", spec := "keydirShadows", inPlace := ["internal/bytealg.IndexByteString", "internal/bytealg.IndexString", "slices.overlaps[drumlin/api.Entry]", "slices.overlaps[drumlin/ordmap.item[string, drumlin/index.list]]"], unfollowed := true, recurses := true, named := ["internal/bytealg.MaxLen"], apart := false, narrowed := true }
def KeydirShadowsUptoSaid : Prop := keydirShadowsUptoRow.holds Try.pinned (OpenSpec.upto keydirShadowsSpec)

end Rows
end Go.Proofs.Ytndknnhgdlgbgaa
