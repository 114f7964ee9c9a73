/- A part of the proof of a law over a given program: W53. -/
import Derived.Test.YtckgcmgnpblnaaaGreatDoorT16
set_option linter.unusedVariables false
set_option linter.unusedSimpArgs false
namespace Go.Ab
open Go.Proofs
theorem w53 (t : Nat) : ACalls Tryz.prog 53 [] (fun e _ => e = .ret (.bool true)) (hpOf (hp0 t) 5) := yes_calls pr1ok orc0ok (by kernel_rfl)
end Go.Ab
