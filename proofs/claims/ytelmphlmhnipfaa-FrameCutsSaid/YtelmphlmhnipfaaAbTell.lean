/- What the evaluator in continuation form tells of a call without arguments. Conditions: Good P. -/
import Derived.Test.YtelmphlmhnipfaaAbShut
import Derived.Test.YtelmphlmhnipfaaAbCps6
namespace Go.Ab
open Go.RowKit
theorem tells_calls {P : Program} (hP : Good P) {O : FuncId → Bool} (hO : Knows P O) {k : Nat} {f : FuncId} (h : tellsTrue P O k f = true) (w : World) :
    Calls P f #[] w fun e w' => e = .returned (.bool true) ∧ Below w.heap.size w w' :=
  calls_true hP hO ((tellsTrue_eq P O k f).symm.trans h) w
/-- One function alone is known. -/
def only (f : FuncId) : FuncId → Bool := Nat.beq f
theorem knows_only {P : Program} {f : FuncId} (h : ∀ w : World, Calls P f #[] w fun e w' => e = .returned (.bool true) ∧ Below w.heap.size w w') : Knows P (only f) := by
  intro g e
  have : f = g := Nat.eq_of_beq_eq_true e
  subst this; exact h
end Go.Ab
