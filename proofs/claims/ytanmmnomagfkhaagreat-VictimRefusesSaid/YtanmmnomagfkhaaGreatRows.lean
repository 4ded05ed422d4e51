/-
  No cell of these rows narrows 'for every input' (looked for: loops, veiled, ifaces, maps, wideKeys, modest, calm, conditions, laid).
  DERIVED. THE GIVEN ROWS OF THIS SEAT. 7 by the template 'for every input the law returns true; each argument reads behind the call as it read before'; 0 by the template 'total and deterministic' (their statements: YtanmmnomagfkhaaGreatTotals.lean).
  GIVEN WITH THE SEED: the statements are not yours to turn. If you find one false, say at which input.
  Laid BY PROGRAM, IN A SANDBOX (cutbox-rows.mjs): the forced cells as the released guide's own fill.sh prints them over the translation acc912be10c7eb34… (all of the seat's roots in one cut). By AI agents, Wed Nov 11 2026. No macro, syntax, notation, axiom, sorry.
-/
import Derived.Test.YtanmmnomagfkhaaGreatChecked
import GoSem.Claim
import GoSem.ClaimJoined
import GoSem.ClaimMapViews
import Derived.JoinedTies
import Derived.KernelRfl
namespace Go.Proofs.YtanmmnomagfkhaaGreat
/- THE CELL 'sum', in the pinned program and in every row, IS THE sha256 OF THE DUMP (.gsa) THAT YtanmmnomagfkhaaGreatProg.lean LOADS. Nothing in Lean hashes anything: it is a label: what it is worth is what the hold of that sum in a sandbox is worth. -/
noncomputable def Tryz.pinned : Pinned := { name := "ytanmmnomagfkhaagreat", sum := "acc912be10c7eb342063511cd523a91173e2073885528164dae29253ffad6c64", checked := Tryz.checked }
namespace Rows
def none {H : Type} : Left H := { results := [], args := [] }

/-- 'drumlinlaw26.VictimChooses': WHATEVER THE INPUT: true; the input reads as it did. -/
def victimChoosesSpec : ChangeSpec := { name := "victimChooses", fn := fun _ => fun
  | [d1, d2, d3, d4, d5, d6] => { results := [.lit (.bool true)], args := [d1, d2, d3, d4, d5, d6] }
  | _ => none }
def victimChoosesRow : OpenClaim := { program := "ytanmmnomagfkhaagreat", sum := "acc912be10c7eb342063511cd523a91173e2073885528164dae29253ffad6c64", func := "drumlin/drumlinlaw26.VictimChooses", spec := "victimChooses", inPlace := ["internal/bytealg.IndexByteString", "internal/bytealg.IndexString", "slices.overlaps[drumlin/api.Entry]", "slices.overlaps[drumlin/ordmap.item[string, drumlin/index.list]]"], unfollowed := true, recurses := true, named := ["internal/bytealg.MaxLen"], apart := false }
def VictimChoosesSaid : Prop := victimChoosesRow.holds Tryz.pinned (OpenSpec.ofChange victimChoosesSpec)

/-- ITS FALSE NEIGHBOUR: 'it returns false'. Refute it at one input. -/
def victimChoosesWrong : ChangeSpec := { name := "victimChooses", fn := fun _ => fun
  | [d1, d2, d3, d4, d5, d6] => { results := [.lit (.bool false)], args := [d1, d2, d3, d4, d5, d6] }
  | _ => none }
def VictimChoosesWrongFalsely : Prop := victimChoosesRow.holds Tryz.pinned (OpenSpec.ofChange victimChoosesWrong)

/-- 'drumlinlaw26.VictimRefuses': WHATEVER THE INPUT: true; the input reads as it did. -/
def victimRefusesSpec : ChangeSpec := { name := "victimRefuses", fn := fun _ => fun
  | [d1, d2, d3, d4] => { results := [.lit (.bool true)], args := [d1, d2, d3, d4] }
  | _ => none }
def victimRefusesRow : OpenClaim := { program := "ytanmmnomagfkhaagreat", sum := "acc912be10c7eb342063511cd523a91173e2073885528164dae29253ffad6c64", func := "drumlin/drumlinlaw26.VictimRefuses", spec := "victimRefuses", inPlace := ["internal/bytealg.IndexByteString", "internal/bytealg.IndexString", "slices.overlaps[drumlin/api.Entry]", "slices.overlaps[drumlin/ordmap.item[string, drumlin/index.list]]"], unfollowed := true, recurses := true, named := ["internal/bytealg.MaxLen"], apart := false }
def VictimRefusesSaid : Prop := victimRefusesRow.holds Tryz.pinned (OpenSpec.ofChange victimRefusesSpec)

/-- ITS FALSE NEIGHBOUR: 'it returns false'. Refute it at one input. -/
def victimRefusesWrong : ChangeSpec := { name := "victimRefuses", fn := fun _ => fun
  | [d1, d2, d3, d4] => { results := [.lit (.bool false)], args := [d1, d2, d3, d4] }
  | _ => none }
def VictimRefusesWrongFalsely : Prop := victimRefusesRow.holds Tryz.pinned (OpenSpec.ofChange victimRefusesWrong)

/-- 'drumlinlaw28.CursorPlays': WHATEVER THE INPUT: true; the input reads as it did. -/
def cursorPlaysSpec : ChangeSpec := { name := "cursorPlays", fn := fun _ => fun
  | [d1, d2] => { results := [.lit (.bool true)], args := [d1, d2] }
  | _ => none }
def cursorPlaysRow : OpenClaim := { program := "ytanmmnomagfkhaagreat", sum := "acc912be10c7eb342063511cd523a91173e2073885528164dae29253ffad6c64", func := "drumlin/drumlinlaw28.CursorPlays", spec := "cursorPlays", inPlace := ["internal/bytealg.IndexByteString", "internal/bytealg.IndexString", "slices.overlaps[drumlin/api.Entry]", "slices.overlaps[drumlin/ordmap.item[string, drumlin/index.list]]"], unfollowed := true, recurses := true, named := ["internal/bytealg.MaxLen"], apart := false }
def CursorPlaysSaid : Prop := cursorPlaysRow.holds Tryz.pinned (OpenSpec.ofChange cursorPlaysSpec)

/-- ITS FALSE NEIGHBOUR: 'it returns false'. Refute it at one input. -/
def cursorPlaysWrong : ChangeSpec := { name := "cursorPlays", fn := fun _ => fun
  | [d1, d2] => { results := [.lit (.bool false)], args := [d1, d2] }
  | _ => none }
def CursorPlaysWrongFalsely : Prop := cursorPlaysRow.holds Tryz.pinned (OpenSpec.ofChange cursorPlaysWrong)

/-- 'drumlinlaw26.VictimNil': WHATEVER THE INPUT: true; the input reads as it did. -/
def victimNilSpec : ChangeSpec := { name := "victimNil", fn := fun _ => fun
  | [d1, d2, d3, d4] => { results := [.lit (.bool true)], args := [d1, d2, d3, d4] }
  | _ => none }
def victimNilRow : OpenClaim := { program := "ytanmmnomagfkhaagreat", sum := "acc912be10c7eb342063511cd523a91173e2073885528164dae29253ffad6c64", func := "drumlin/drumlinlaw26.VictimNil", spec := "victimNil", inPlace := ["internal/bytealg.IndexByteString", "internal/bytealg.IndexString", "slices.overlaps[drumlin/api.Entry]", "slices.overlaps[drumlin/ordmap.item[string, drumlin/index.list]]"], unfollowed := true, recurses := true, named := ["internal/bytealg.MaxLen"], apart := false }
def VictimNilSaid : Prop := victimNilRow.holds Tryz.pinned (OpenSpec.ofChange victimNilSpec)

/-- ITS FALSE NEIGHBOUR: 'it returns false'. Refute it at one input. -/
def victimNilWrong : ChangeSpec := { name := "victimNil", fn := fun _ => fun
  | [d1, d2, d3, d4] => { results := [.lit (.bool false)], args := [d1, d2, d3, d4] }
  | _ => none }
def VictimNilWrongFalsely : Prop := victimNilRow.holds Tryz.pinned (OpenSpec.ofChange victimNilWrong)

/-- 'drumlinlaw26.VictimOrder': WHATEVER THE INPUT: true; the input reads as it did. -/
def victimOrderSpec : ChangeSpec := { name := "victimOrder", fn := fun _ => fun
  | [d1, d2, d3, d4] => { results := [.lit (.bool true)], args := [d1, d2, d3, d4] }
  | _ => none }
def victimOrderRow : OpenClaim := { program := "ytanmmnomagfkhaagreat", sum := "acc912be10c7eb342063511cd523a91173e2073885528164dae29253ffad6c64", func := "drumlin/drumlinlaw26.VictimOrder", spec := "victimOrder", inPlace := ["internal/bytealg.IndexByteString", "internal/bytealg.IndexString", "slices.overlaps[drumlin/api.Entry]", "slices.overlaps[drumlin/ordmap.item[string, drumlin/index.list]]"], unfollowed := true, recurses := true, named := ["internal/bytealg.MaxLen"], apart := false }
def VictimOrderSaid : Prop := victimOrderRow.holds Tryz.pinned (OpenSpec.ofChange victimOrderSpec)

/-- ITS FALSE NEIGHBOUR: 'it returns false'. Refute it at one input. -/
def victimOrderWrong : ChangeSpec := { name := "victimOrder", fn := fun _ => fun
  | [d1, d2, d3, d4] => { results := [.lit (.bool false)], args := [d1, d2, d3, d4] }
  | _ => none }
def VictimOrderWrongFalsely : Prop := victimOrderRow.holds Tryz.pinned (OpenSpec.ofChange victimOrderWrong)

/-- 'drumlinlaw26.VictimParts': WHATEVER THE INPUT: true; the input reads as it did. -/
def victimPartsSpec : ChangeSpec := { name := "victimParts", fn := fun _ => fun
  | [d1, d2, d3, d4] => { results := [.lit (.bool true)], args := [d1, d2, d3, d4] }
  | _ => none }
def victimPartsRow : OpenClaim := { program := "ytanmmnomagfkhaagreat", sum := "acc912be10c7eb342063511cd523a91173e2073885528164dae29253ffad6c64", func := "drumlin/drumlinlaw26.VictimParts", spec := "victimParts", inPlace := ["internal/bytealg.IndexByteString", "internal/bytealg.IndexString", "slices.overlaps[drumlin/api.Entry]", "slices.overlaps[drumlin/ordmap.item[string, drumlin/index.list]]"], unfollowed := true, recurses := true, named := ["internal/bytealg.MaxLen"], apart := false }
def VictimPartsSaid : Prop := victimPartsRow.holds Tryz.pinned (OpenSpec.ofChange victimPartsSpec)

/-- ITS FALSE NEIGHBOUR: 'it returns false'. Refute it at one input. -/
def victimPartsWrong : ChangeSpec := { name := "victimParts", fn := fun _ => fun
  | [d1, d2, d3, d4] => { results := [.lit (.bool false)], args := [d1, d2, d3, d4] }
  | _ => none }
def VictimPartsWrongFalsely : Prop := victimPartsRow.holds Tryz.pinned (OpenSpec.ofChange victimPartsWrong)

/-- 'drumlinlaw26.VictimEmpty': WHATEVER THE INPUT: true; the input reads as it did. -/
def victimEmptySpec : ChangeSpec := { name := "victimEmpty", fn := fun _ => fun
  | [d1, d2] => { results := [.lit (.bool true)], args := [d1, d2] }
  | _ => none }
def victimEmptyRow : OpenClaim := { program := "ytanmmnomagfkhaagreat", sum := "acc912be10c7eb342063511cd523a91173e2073885528164dae29253ffad6c64", func := "drumlin/drumlinlaw26.VictimEmpty", spec := "victimEmpty", inPlace := ["internal/bytealg.IndexByteString", "internal/bytealg.IndexString", "slices.overlaps[drumlin/api.Entry]", "slices.overlaps[drumlin/ordmap.item[string, drumlin/index.list]]"], unfollowed := true, recurses := true, named := ["internal/bytealg.MaxLen"], apart := false }
def VictimEmptySaid : Prop := victimEmptyRow.holds Tryz.pinned (OpenSpec.ofChange victimEmptySpec)

/-- ITS FALSE NEIGHBOUR: 'it returns false'. Refute it at one input. -/
def victimEmptyWrong : ChangeSpec := { name := "victimEmpty", fn := fun _ => fun
  | [d1, d2] => { results := [.lit (.bool false)], args := [d1, d2] }
  | _ => none }
def VictimEmptyWrongFalsely : Prop := victimEmptyRow.holds Tryz.pinned (OpenSpec.ofChange victimEmptyWrong)

/- THE SECOND FORM. 'bulk': how many values and letters a reading holds, each counted each time it is reached (what is shared counts as often as it is met; a slice's spare places count too). A statement '..UptoSaid' is the law's where the arguments, and the package variables that the reading takes, are together of bulk at most 1048576: NARROWER than '..Said'. Prove '..Said' where nothing that the law and all that it calls make is longer than what came in: it says more and counts as full. Else prove '..UptoSaid'. A law counts once. -/
mutual
def uptoBulk {H : Type} : DataW H → Nat
  | .lit (.string bytes) => bytes.length + 1
  | .lit _ => 1
  | .nil => 1
  | .ptr d => uptoBulk d + 1
  | .slice elems spare => uptoBulkAll elems + uptoBulkAll spare + 1
  | .agg parts => uptoBulkAll parts + 1
  | .iface _ d => uptoBulk d + 1
  | .map entries => uptoBulkEntries entries + 1
  | .held _ => 1
def uptoBulkAll {H : Type} : List (DataW H) → Nat
  | [] => 0
  | d :: r => uptoBulk d + uptoBulkAll r
def uptoBulkEntries {H : Type} : List (Lit × DataW H) → Nat
  | [] => 0
  | x :: r => uptoBulkEntry x + uptoBulkEntries r
def uptoBulkEntry {H : Type} : Lit × DataW H → Nat
  | (.string bytes, d) => bytes.length + uptoBulk d + 1
  | (_, d) => uptoBulk d + 1
 end
def uptoSmall : (H : Type) → List (DataW H) → Bool := fun _ ds => decide (uptoBulkAll ds ≤ 1048576)
def OpenSpec.upto (s : _root_.Go.ChangeSpec) : _root_.Go.OpenSpec := { _root_.Go.OpenSpec.ofChange s with cond := some uptoSmall }

/-- 'drumlinlaw26.VictimChooses', WHERE WHAT IT READS IS OF BULK AT MOST 1048576: true; the input reads as it did. -/
def victimChoosesUptoRow : OpenClaim := { program := "ytanmmnomagfkhaagreat", sum := "acc912be10c7eb342063511cd523a91173e2073885528164dae29253ffad6c64", func := "drumlin/drumlinlaw26.VictimChooses", spec := "victimChooses", inPlace := ["internal/bytealg.IndexByteString", "internal/bytealg.IndexString", "slices.overlaps[drumlin/api.Entry]", "slices.overlaps[drumlin/ordmap.item[string, drumlin/index.list]]"], unfollowed := true, recurses := true, named := ["internal/bytealg.MaxLen"], apart := false, narrowed := true }
def VictimChoosesUptoSaid : Prop := victimChoosesUptoRow.holds Tryz.pinned (OpenSpec.upto victimChoosesSpec)

/-- 'drumlinlaw26.VictimRefuses', WHERE WHAT IT READS IS OF BULK AT MOST 1048576: true; the input reads as it did. -/
def victimRefusesUptoRow : OpenClaim := { program := "ytanmmnomagfkhaagreat", sum := "acc912be10c7eb342063511cd523a91173e2073885528164dae29253ffad6c64", func := "drumlin/drumlinlaw26.VictimRefuses", spec := "victimRefuses", inPlace := ["internal/bytealg.IndexByteString", "internal/bytealg.IndexString", "slices.overlaps[drumlin/api.Entry]", "slices.overlaps[drumlin/ordmap.item[string, drumlin/index.list]]"], unfollowed := true, recurses := true, named := ["internal/bytealg.MaxLen"], apart := false, narrowed := true }
def VictimRefusesUptoSaid : Prop := victimRefusesUptoRow.holds Tryz.pinned (OpenSpec.upto victimRefusesSpec)

/-- 'drumlinlaw28.CursorPlays', WHERE WHAT IT READS IS OF BULK AT MOST 1048576: true; the input reads as it did. -/
def cursorPlaysUptoRow : OpenClaim := { program := "ytanmmnomagfkhaagreat", sum := "acc912be10c7eb342063511cd523a91173e2073885528164dae29253ffad6c64", func := "drumlin/drumlinlaw28.CursorPlays", spec := "cursorPlays", inPlace := ["internal/bytealg.IndexByteString", "internal/bytealg.IndexString", "slices.overlaps[drumlin/api.Entry]", "slices.overlaps[drumlin/ordmap.item[string, drumlin/index.list]]"], unfollowed := true, recurses := true, named := ["internal/bytealg.MaxLen"], apart := false, narrowed := true }
def CursorPlaysUptoSaid : Prop := cursorPlaysUptoRow.holds Tryz.pinned (OpenSpec.upto cursorPlaysSpec)

/-- 'drumlinlaw26.VictimNil', WHERE WHAT IT READS IS OF BULK AT MOST 1048576: true; the input reads as it did. -/
def victimNilUptoRow : OpenClaim := { program := "ytanmmnomagfkhaagreat", sum := "acc912be10c7eb342063511cd523a91173e2073885528164dae29253ffad6c64", func := "drumlin/drumlinlaw26.VictimNil", spec := "victimNil", inPlace := ["internal/bytealg.IndexByteString", "internal/bytealg.IndexString", "slices.overlaps[drumlin/api.Entry]", "slices.overlaps[drumlin/ordmap.item[string, drumlin/index.list]]"], unfollowed := true, recurses := true, named := ["internal/bytealg.MaxLen"], apart := false, narrowed := true }
def VictimNilUptoSaid : Prop := victimNilUptoRow.holds Tryz.pinned (OpenSpec.upto victimNilSpec)

/-- 'drumlinlaw26.VictimOrder', WHERE WHAT IT READS IS OF BULK AT MOST 1048576: true; the input reads as it did. -/
def victimOrderUptoRow : OpenClaim := { program := "ytanmmnomagfkhaagreat", sum := "acc912be10c7eb342063511cd523a91173e2073885528164dae29253ffad6c64", func := "drumlin/drumlinlaw26.VictimOrder", spec := "victimOrder", inPlace := ["internal/bytealg.IndexByteString", "internal/bytealg.IndexString", "slices.overlaps[drumlin/api.Entry]", "slices.overlaps[drumlin/ordmap.item[string, drumlin/index.list]]"], unfollowed := true, recurses := true, named := ["internal/bytealg.MaxLen"], apart := false, narrowed := true }
def VictimOrderUptoSaid : Prop := victimOrderUptoRow.holds Tryz.pinned (OpenSpec.upto victimOrderSpec)

/-- 'drumlinlaw26.VictimParts', WHERE WHAT IT READS IS OF BULK AT MOST 1048576: true; the input reads as it did. -/
def victimPartsUptoRow : OpenClaim := { program := "ytanmmnomagfkhaagreat", sum := "acc912be10c7eb342063511cd523a91173e2073885528164dae29253ffad6c64", func := "drumlin/drumlinlaw26.VictimParts", spec := "victimParts", inPlace := ["internal/bytealg.IndexByteString", "internal/bytealg.IndexString", "slices.overlaps[drumlin/api.Entry]", "slices.overlaps[drumlin/ordmap.item[string, drumlin/index.list]]"], unfollowed := true, recurses := true, named := ["internal/bytealg.MaxLen"], apart := false, narrowed := true }
def VictimPartsUptoSaid : Prop := victimPartsUptoRow.holds Tryz.pinned (OpenSpec.upto victimPartsSpec)

/-- 'drumlinlaw26.VictimEmpty', WHERE WHAT IT READS IS OF BULK AT MOST 1048576: true; the input reads as it did. -/
def victimEmptyUptoRow : OpenClaim := { program := "ytanmmnomagfkhaagreat", sum := "acc912be10c7eb342063511cd523a91173e2073885528164dae29253ffad6c64", func := "drumlin/drumlinlaw26.VictimEmpty", spec := "victimEmpty", inPlace := ["internal/bytealg.IndexByteString", "internal/bytealg.IndexString", "slices.overlaps[drumlin/api.Entry]", "slices.overlaps[drumlin/ordmap.item[string, drumlin/index.list]]"], unfollowed := true, recurses := true, named := ["internal/bytealg.MaxLen"], apart := false, narrowed := true }
def VictimEmptyUptoSaid : Prop := victimEmptyUptoRow.holds Tryz.pinned (OpenSpec.upto victimEmptySpec)

end Rows
end Go.Proofs.YtanmmnomagfkhaaGreat
