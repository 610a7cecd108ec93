/- A call without arguments that the evaluator finds to answer true answers true in the model, whatever is drawn, and writes nothing that was there. Conditions: Good P. -/
import Derived.Test.YtelmphlmhnipfaaAbRun
namespace Go.Ab
open Go.RowKit

/-- The condition on names, as a check that the kernel carries out. -/
def namesB (P : Program) : Bool := P.funcs.toList.all fun fn => !fn.body.isSome || !(fn.name == "runtime.NumGoroutine")

theorem good_of {P : Program} (hm : P.follows .mixedOrders = true) (hn : namesB P = true) : Good P where
  mixed := hm
  names := fun f fn hf hb => by
    have h := List.all_eq_true.1 hn fn (by
      have := Array.mem_of_getElem? hf
      simpa using this)
    rw [hb] at h
    simpa using h

theorem rm_start (w : World) : RM w.heap.size w (fun _ => none) M0 w where
  below := Below.refl _ _
  base := Nat.le_refl _
  dom := fun id b s r h => by simp at h
  fresh := fun id _ => T.get_lf id
  blk := fun id b s r k h => by simp at h
  sep := fun i j b si ri sj rj ki kj _ h => by simp at h

theorem calls_true {P : Program} (hP : Good P) {O : FuncId → Bool} (hO : Knows P O) {k : Nat} {f : FuncId} (h : saysTrue P O k f = true) (w : World) :
    Calls P f #[] w fun e w' => e = .returned (.bool true) ∧ Below w.heap.size w w' := by
  unfold saysTrue at h
  cases hr : (runA P O k).call f [] M0 with
  | no => rw [hr] at h; exact absurd h (by simp [Out.bind])
  | ok v M' =>
    rw [hr] at h
    have hv : v = .one (.c (.bool true)) := by
      have h : isTrue v M' = true := h
      unfold isTrue V.asC CV.asBool at h
      rcases v with (c | xs) | xs | _
      · cases c <;> simp at h
        subst h; rfl
      · simp at h
      · simp at h
      · simp at h
    subst hv
    have := ((sound hP hO k).call w.heap.size w (fun _ => none) M0 w f [] [] _ M' 0 (rm_start w) .nil hr).2
    refine (callsIn_wide.1 this).mono fun e w' ⟨σ', c, he, _, hm, hc⟩ => ?_
    subst he
    cases hc with
    | one _ _ h1 => cases h1 with
      | c _ _ hc => cases hc with
        | bool b => exact ⟨rfl, hm.below⟩

end Go.Ab
