/- A part of the proof of a law over a given program: W56. -/
import Derived.Test.YtckgcmgnpblnaaaGreatDoorT18
import Derived.Test.YtckgcmgnpblnaaaGreatDoorT23
import Derived.Test.YtckgcmgnpblnaaaGreatDoorT24
set_option linter.unusedVariables false
set_option linter.unusedSimpArgs false
namespace Go.Ab
open Go.Proofs
theorem works54 : Works [54, 53] := .cons (en (by kernel_rfl)) w54 (.cons (en (by kernel_rfl)) w53 .nil)
theorem w56 (t : Nat) : ACalls Tryz.prog 56 [] (fun e _ => e = .ret (.bool true)) (hpOf (hp0 t) 5) := yes_calls (prOr_ok (prW_ok works54) pr2ok) orc0ok (by kernel_rfl)
end Go.Ab
