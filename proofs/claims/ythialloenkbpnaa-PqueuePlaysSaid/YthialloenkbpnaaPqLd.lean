/- PqueuePlays: joined. -/
import Derived.Test.YthialloenkbpnaaPqLa
import Derived.Test.YthialloenkbpnaaPqLb
import Derived.Test.YthialloenkbpnaaPqLc
set_option linter.unusedVariables false
set_option linter.unusedSimpArgs false
namespace Go.Proofs.Ythialloenkbpnaa
open Go.RowKit Go.Shelf
attribute [local go_sem] OvM cell_ovm obj_ovm
attribute [local go_sem] Oper.semAt_some
theorem Plays_any (size : Int) (a : Option Addr) (len cap : Nat) (l : List Stq) (id : Int) (w : World) (hl : l.length = len) (hle : len ≤ cap) (hcap : cap ≤ maxLen) (hs : StepsAt w a l) :
    Calls Try.prog 7 #[.int .i64 size, .slice a len cap, .int .i64 id] w fun e w' => e = .returned (.bool true) ∧ Gr w w' := by
  by_cases hbig : (150 : Int) < len ∨ (40 < size ∧ size ≤ 1024)
  · exact Plays_big size a len cap l id w hl hle hcap hs hbig
  by_cases h1 : size < 1
  · exact Plays_bad1 size a len cap l id w hl hle hcap hs (by omega) h1
  by_cases h2 : 1024 < size
  · exact Plays_bad2 size a len cap l id w hl hle hcap hs (by omega) h2
  exact Plays_good size a len cap l id w hl hle hcap hs (by omega) (by omega)
end Go.Proofs.Ythialloenkbpnaa
