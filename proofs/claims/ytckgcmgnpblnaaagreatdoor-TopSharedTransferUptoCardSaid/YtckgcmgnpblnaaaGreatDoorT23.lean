/- A part of the proof of a law over a given program: W54. -/
import Derived.Test.YtckgcmgnpblnaaaGreatDoorT18
set_option linter.unusedVariables false
set_option linter.unusedSimpArgs false
namespace Go.Ab
open Go.Proofs
theorem w54 (t : Nat) : ACalls Tryz.prog 54 [] (fun e _ => e = .ret (.bool true)) (hpOf (hp0 t) 5) := yes_calls pr2ok orc0ok (by kernel_rfl)
end Go.Ab
