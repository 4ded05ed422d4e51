/- OrdmapCopies answers true. -/
import Derived.Test.YtbhkigjmjmfbgaaOcA
import Derived.Test.YtbhkigjmjmfbgaaOcB
set_option linter.unusedVariables false
set_option linter.unusedSimpArgs false
namespace Go.Proofs.Ytbhkigjmjmfbgaa
theorem Copies_any (a : Option Addr) (len cap : Nat) (l : List Cl) (a2 : Option Addr) (len2 cap2 : Nat) (l2 : List Cl) (w : World) (hl : l.length = len) (hle : len ≤ cap) (hcap : cap ≤ maxLen) (hs : CallsAt w a l)
    (hl2 : l2.length = len2) (hle2 : len2 ≤ cap2) (hcap2 : cap2 ≤ maxLen) (hs2 : CallsAt w a2 l2) :
    Calls Try.prog 7 #[.slice a len cap, .slice a2 len2 cap2] w fun e w' => e = .returned (.bool true) ∧ Gr w w' := by
  by_cases h50 : (50 : Int) < len2
  · exact Copies_long a len cap l a2 len2 cap2 l2 w hl hle hcap hs hl2 hle2 hcap2 hs2 h50
  · exact Copies_short a len cap l a2 len2 cap2 l2 w hl hle hcap hs hl2 hle2 hcap2 hs2 (by omega)
end Go.Proofs.Ytbhkigjmjmfbgaa
