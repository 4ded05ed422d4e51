/-
  No cell of these rows narrows 'for every input' (looked for: loops, veiled, ifaces, maps, wideKeys, modest, calm, conditions, laid).
  DERIVED. THE GIVEN ROWS OF THIS SEAT. 6 by the template 'for every input the law returns true; each argument reads behind the call as it read before'; 0 by the template 'total and deterministic' (their statements: YtgpecjnnepocmaaTotals.lean).
  GIVEN WITH THE SEED: the statements are not yours to turn. If you find one false, say at which input.
  Laid BY PROGRAM, IN A SANDBOX (cutbox-rows.mjs): the forced cells as the released guide's own fill.sh prints them over the translation 59602149aa82f187… (all of the seat's roots in one cut). By AI agents, Wed Nov 11 2026. No macro, syntax, notation, axiom, sorry.
-/
import Derived.Test.YtgpecjnnepocmaaChecked
import GoSem.Claim
import GoSem.ClaimJoined
import GoSem.ClaimMapViews
import Derived.JoinedTies
import Derived.KernelRfl
namespace Go.Proofs.Ytgpecjnnepocmaa
/- THE CELL 'sum', in the pinned program and in every row, IS THE sha256 OF THE DUMP (.gsa) THAT YtgpecjnnepocmaaProg.lean LOADS. Nothing in Lean hashes anything: it is a label: what it is worth is what the hold of that sum in a sandbox is worth. -/
noncomputable def Try.pinned : Pinned := { name := "ytgpecjnnepocmaa", sum := "59602149aa82f187a071f7e1a580d85d837338fa7d6cd849f87750942b2acab0", checked := Try.checked }
namespace Rows
def none {H : Type} : Left H := { results := [], args := [] }

/-- 'drumlinlaw25.ScoreCompares': WHATEVER THE INPUT: true; the input reads as it did. -/
def scoreComparesSpec : ChangeSpec := { name := "scoreCompares", fn := fun _ => fun
  | [d1, d2, d3, d4] => { results := [.lit (.bool true)], args := [d1, d2, d3, d4] }
  | _ => none }
def scoreComparesRow : OpenClaim := { program := "ytgpecjnnepocmaa", sum := "59602149aa82f187a071f7e1a580d85d837338fa7d6cd849f87750942b2acab0", func := "drumlin/drumlinlaw25.ScoreCompares", spec := "scoreCompares", unfollowed := true, recurses := true, apart := false }
def ScoreComparesSaid : Prop := scoreComparesRow.holds Try.pinned (OpenSpec.ofChange scoreComparesSpec)

/-- ITS FALSE NEIGHBOUR: 'it returns false'. Refute it at one input. -/
def scoreComparesWrong : ChangeSpec := { name := "scoreCompares", fn := fun _ => fun
  | [d1, d2, d3, d4] => { results := [.lit (.bool false)], args := [d1, d2, d3, d4] }
  | _ => none }
def ScoreComparesWrongFalsely : Prop := scoreComparesRow.holds Try.pinned (OpenSpec.ofChange scoreComparesWrong)

/-- 'drumlinlaw25.ScoreTotal': WHATEVER THE INPUT: true; the input reads as it did. -/
def scoreTotalSpec : ChangeSpec := { name := "scoreTotal", fn := fun _ => fun
  | [d1, d2, d3, d4, d5] => { results := [.lit (.bool true)], args := [d1, d2, d3, d4, d5] }
  | _ => none }
def scoreTotalRow : OpenClaim := { program := "ytgpecjnnepocmaa", sum := "59602149aa82f187a071f7e1a580d85d837338fa7d6cd849f87750942b2acab0", func := "drumlin/drumlinlaw25.ScoreTotal", spec := "scoreTotal", unfollowed := true, recurses := true, apart := false }
def ScoreTotalSaid : Prop := scoreTotalRow.holds Try.pinned (OpenSpec.ofChange scoreTotalSpec)

/-- ITS FALSE NEIGHBOUR: 'it returns false'. Refute it at one input. -/
def scoreTotalWrong : ChangeSpec := { name := "scoreTotal", fn := fun _ => fun
  | [d1, d2, d3, d4, d5] => { results := [.lit (.bool false)], args := [d1, d2, d3, d4, d5] }
  | _ => none }
def ScoreTotalWrongFalsely : Prop := scoreTotalRow.holds Try.pinned (OpenSpec.ofChange scoreTotalWrong)

/-- 'drumlinlaw25.ScoreAges': WHATEVER THE INPUT: true; the input reads as it did. -/
def scoreAgesSpec : ChangeSpec := { name := "scoreAges", fn := fun _ => fun
  | [d1, d2, d3] => { results := [.lit (.bool true)], args := [d1, d2, d3] }
  | _ => none }
def scoreAgesRow : OpenClaim := { program := "ytgpecjnnepocmaa", sum := "59602149aa82f187a071f7e1a580d85d837338fa7d6cd849f87750942b2acab0", func := "drumlin/drumlinlaw25.ScoreAges", spec := "scoreAges", unfollowed := true, recurses := true, apart := false }
def ScoreAgesSaid : Prop := scoreAgesRow.holds Try.pinned (OpenSpec.ofChange scoreAgesSpec)

/-- ITS FALSE NEIGHBOUR: 'it returns false'. Refute it at one input. -/
def scoreAgesWrong : ChangeSpec := { name := "scoreAges", fn := fun _ => fun
  | [d1, d2, d3] => { results := [.lit (.bool false)], args := [d1, d2, d3] }
  | _ => none }
def ScoreAgesWrongFalsely : Prop := scoreAgesRow.holds Try.pinned (OpenSpec.ofChange scoreAgesWrong)

/-- 'drumlinlaw25.ScoreRefuses': WHATEVER THE INPUT: true; the input reads as it did. -/
def scoreRefusesSpec : ChangeSpec := { name := "scoreRefuses", fn := fun _ => fun
  | [d1, d2, d3, d4, d5] => { results := [.lit (.bool true)], args := [d1, d2, d3, d4, d5] }
  | _ => none }
def scoreRefusesRow : OpenClaim := { program := "ytgpecjnnepocmaa", sum := "59602149aa82f187a071f7e1a580d85d837338fa7d6cd849f87750942b2acab0", func := "drumlin/drumlinlaw25.ScoreRefuses", spec := "scoreRefuses", unfollowed := true, recurses := true, apart := false }
def ScoreRefusesSaid : Prop := scoreRefusesRow.holds Try.pinned (OpenSpec.ofChange scoreRefusesSpec)

/-- ITS FALSE NEIGHBOUR: 'it returns false'. Refute it at one input. -/
def scoreRefusesWrong : ChangeSpec := { name := "scoreRefuses", fn := fun _ => fun
  | [d1, d2, d3, d4, d5] => { results := [.lit (.bool false)], args := [d1, d2, d3, d4, d5] }
  | _ => none }
def ScoreRefusesWrongFalsely : Prop := scoreRefusesRow.holds Try.pinned (OpenSpec.ofChange scoreRefusesWrong)

/-- 'drumlinlaw25.ScoreBests': WHATEVER THE INPUT: true; the input reads as it did. -/
def scoreBestsSpec : ChangeSpec := { name := "scoreBests", fn := fun _ => fun
  | [d1, d2, d3] => { results := [.lit (.bool true)], args := [d1, d2, d3] }
  | _ => none }
def scoreBestsRow : OpenClaim := { program := "ytgpecjnnepocmaa", sum := "59602149aa82f187a071f7e1a580d85d837338fa7d6cd849f87750942b2acab0", func := "drumlin/drumlinlaw25.ScoreBests", spec := "scoreBests", unfollowed := true, recurses := true, apart := false }
def ScoreBestsSaid : Prop := scoreBestsRow.holds Try.pinned (OpenSpec.ofChange scoreBestsSpec)

/-- ITS FALSE NEIGHBOUR: 'it returns false'. Refute it at one input. -/
def scoreBestsWrong : ChangeSpec := { name := "scoreBests", fn := fun _ => fun
  | [d1, d2, d3] => { results := [.lit (.bool false)], args := [d1, d2, d3] }
  | _ => none }
def ScoreBestsWrongFalsely : Prop := scoreBestsRow.holds Try.pinned (OpenSpec.ofChange scoreBestsWrong)

/-- 'drumlinlaw25.ScoreBest': WHATEVER THE INPUT: true; the input reads as it did. -/
def scoreBestSpec : ChangeSpec := { name := "scoreBest", fn := fun _ => fun
  | [d1, d2, d3, d4] => { results := [.lit (.bool true)], args := [d1, d2, d3, d4] }
  | _ => none }
def scoreBestRow : OpenClaim := { program := "ytgpecjnnepocmaa", sum := "59602149aa82f187a071f7e1a580d85d837338fa7d6cd849f87750942b2acab0", func := "drumlin/drumlinlaw25.ScoreBest", spec := "scoreBest", unfollowed := true, recurses := true, apart := false }
def ScoreBestSaid : Prop := scoreBestRow.holds Try.pinned (OpenSpec.ofChange scoreBestSpec)

/-- ITS FALSE NEIGHBOUR: 'it returns false'. Refute it at one input. -/
def scoreBestWrong : ChangeSpec := { name := "scoreBest", fn := fun _ => fun
  | [d1, d2, d3, d4] => { results := [.lit (.bool false)], args := [d1, d2, d3, d4] }
  | _ => none }
def ScoreBestWrongFalsely : Prop := scoreBestRow.holds Try.pinned (OpenSpec.ofChange scoreBestWrong)

/- THE SECOND FORM. 'bulk': how many values and letters a reading holds, each counted each time it is reached (what is shared counts as often as it is met; a slice's spare places count too). A statement '..UptoSaid' is the law's where the arguments, and the package variables that the reading takes, are together of bulk at most 1048576: NARROWER than '..Said'. Prove '..Said' where nothing that the law and all that it calls make is longer than what came in: it says more and counts as full. Else prove '..UptoSaid'. A law counts once. -/
mutual
def uptoBulk {H : Type} : DataW H → Nat
  | .lit (.string bytes) => bytes.length + 1
  | .lit _ => 1
  | .nil => 1
  | .ptr d => uptoBulk d + 1
  | .slice elems spare => uptoBulkAll elems + uptoBulkAll spare + 1
  | .agg parts => uptoBulkAll parts + 1
  | .iface _ d => uptoBulk d + 1
  | .map entries => uptoBulkEntries entries + 1
  | .held _ => 1
def uptoBulkAll {H : Type} : List (DataW H) → Nat
  | [] => 0
  | d :: r => uptoBulk d + uptoBulkAll r
def uptoBulkEntries {H : Type} : List (Lit × DataW H) → Nat
  | [] => 0
  | x :: r => uptoBulkEntry x + uptoBulkEntries r
def uptoBulkEntry {H : Type} : Lit × DataW H → Nat
  | (.string bytes, d) => bytes.length + uptoBulk d + 1
  | (_, d) => uptoBulk d + 1
 end
def uptoSmall : (H : Type) → List (DataW H) → Bool := fun _ ds => decide (uptoBulkAll ds ≤ 1048576)
def OpenSpec.upto (s : _root_.Go.ChangeSpec) : _root_.Go.OpenSpec := { _root_.Go.OpenSpec.ofChange s with cond := some uptoSmall }

/-- 'drumlinlaw25.ScoreCompares', WHERE WHAT IT READS IS OF BULK AT MOST 1048576: true; the input reads as it did. -/
def scoreComparesUptoRow : OpenClaim := { program := "ytgpecjnnepocmaa", sum := "59602149aa82f187a071f7e1a580d85d837338fa7d6cd849f87750942b2acab0", func := "drumlin/drumlinlaw25.ScoreCompares", spec := "scoreCompares", unfollowed := true, recurses := true, apart := false, narrowed := true }
def ScoreComparesUptoSaid : Prop := scoreComparesUptoRow.holds Try.pinned (OpenSpec.upto scoreComparesSpec)

/-- 'drumlinlaw25.ScoreTotal', WHERE WHAT IT READS IS OF BULK AT MOST 1048576: true; the input reads as it did. -/
def scoreTotalUptoRow : OpenClaim := { program := "ytgpecjnnepocmaa", sum := "59602149aa82f187a071f7e1a580d85d837338fa7d6cd849f87750942b2acab0", func := "drumlin/drumlinlaw25.ScoreTotal", spec := "scoreTotal", unfollowed := true, recurses := true, apart := false, narrowed := true }
def ScoreTotalUptoSaid : Prop := scoreTotalUptoRow.holds Try.pinned (OpenSpec.upto scoreTotalSpec)

/-- 'drumlinlaw25.ScoreAges', WHERE WHAT IT READS IS OF BULK AT MOST 1048576: true; the input reads as it did. -/
def scoreAgesUptoRow : OpenClaim := { program := "ytgpecjnnepocmaa", sum := "59602149aa82f187a071f7e1a580d85d837338fa7d6cd849f87750942b2acab0", func := "drumlin/drumlinlaw25.ScoreAges", spec := "scoreAges", unfollowed := true, recurses := true, apart := false, narrowed := true }
def ScoreAgesUptoSaid : Prop := scoreAgesUptoRow.holds Try.pinned (OpenSpec.upto scoreAgesSpec)

/-- 'drumlinlaw25.ScoreRefuses', WHERE WHAT IT READS IS OF BULK AT MOST 1048576: true; the input reads as it did. -/
def scoreRefusesUptoRow : OpenClaim := { program := "ytgpecjnnepocmaa", sum := "59602149aa82f187a071f7e1a580d85d837338fa7d6cd849f87750942b2acab0", func := "drumlin/drumlinlaw25.ScoreRefuses", spec := "scoreRefuses", unfollowed := true, recurses := true, apart := false, narrowed := true }
def ScoreRefusesUptoSaid : Prop := scoreRefusesUptoRow.holds Try.pinned (OpenSpec.upto scoreRefusesSpec)

/-- 'drumlinlaw25.ScoreBests', WHERE WHAT IT READS IS OF BULK AT MOST 1048576: true; the input reads as it did. -/
def scoreBestsUptoRow : OpenClaim := { program := "ytgpecjnnepocmaa", sum := "59602149aa82f187a071f7e1a580d85d837338fa7d6cd849f87750942b2acab0", func := "drumlin/drumlinlaw25.ScoreBests", spec := "scoreBests", unfollowed := true, recurses := true, apart := false, narrowed := true }
def ScoreBestsUptoSaid : Prop := scoreBestsUptoRow.holds Try.pinned (OpenSpec.upto scoreBestsSpec)

/-- 'drumlinlaw25.ScoreBest', WHERE WHAT IT READS IS OF BULK AT MOST 1048576: true; the input reads as it did. -/
def scoreBestUptoRow : OpenClaim := { program := "ytgpecjnnepocmaa", sum := "59602149aa82f187a071f7e1a580d85d837338fa7d6cd849f87750942b2acab0", func := "drumlin/drumlinlaw25.ScoreBest", spec := "scoreBest", unfollowed := true, recurses := true, apart := false, narrowed := true }
def ScoreBestUptoSaid : Prop := scoreBestUptoRow.holds Try.pinned (OpenSpec.upto scoreBestSpec)

end Rows
end Go.Proofs.Ytgpecjnnepocmaa
