/- A part of the proof of a law over a given program: W62. -/
import Derived.Test.YtckgcmgnpblnaaaGreatDoorT26
set_option linter.unusedVariables false
set_option linter.unusedSimpArgs false
namespace Go.Ab
open Go.Proofs
theorem w62 (t : Nat) : ACalls Tryz.prog 62 [] (fun e _ => e = .ret (.bool true)) (hpOf (hp0 t) 5) := yes_calls (prOr_ok (prW_ok works60) pr3ok) orc0ok (by kernel_rfl)
end Go.Ab
