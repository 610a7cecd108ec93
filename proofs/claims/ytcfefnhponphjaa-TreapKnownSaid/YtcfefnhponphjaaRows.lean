/-
  No cell of these rows narrows 'for every input' (looked for: loops, veiled, ifaces, maps, wideKeys, modest, calm, conditions, laid).
  DERIVED. THE GIVEN ROWS OF THIS SEAT. 6 by the template 'for every input the law returns true; each argument reads behind the call as it read before'; 0 by the template 'total and deterministic' (their statements: YtcfefnhponphjaaTotals.lean).
  GIVEN WITH THE SEED: the statements are not yours to turn. If you find one false, say at which input.
  Laid BY PROGRAM, IN A SANDBOX (cutbox-rows.mjs): the forced cells as the released guide's own fill.sh prints them over the translation cfffb5194ee735ce… (all of the seat's roots in one cut). By AI agents, Wed Nov 11 2026. No macro, syntax, notation, axiom, sorry.
-/
import Derived.Test.YtcfefnhponphjaaChecked
import GoSem.Claim
import GoSem.ClaimJoined
import GoSem.ClaimMapViews
import Derived.JoinedTies
import Derived.KernelRfl
namespace Go.Proofs.Ytcfefnhponphjaa
/- THE CELL 'sum', in the pinned program and in every row, IS THE sha256 OF THE DUMP (.gsa) THAT YtcfefnhponphjaaProg.lean LOADS. Nothing in Lean hashes anything: it is a label: what it is worth is what the hold of that sum in a sandbox is worth. -/
noncomputable def Try.pinned : Pinned := { name := "ytcfefnhponphjaa", sum := "cfffb5194ee735cef55a5866d6f4f8899d917248bea2a20cb8a691e2b4d62f50", checked := Try.checked }
namespace Rows
def none {H : Type} : Left H := { results := [], args := [] }

/-- 'tidewalklaw06.TreapBack': WHATEVER THE INPUT: true; the input reads as it did. -/
def treapBackSpec : ChangeSpec := { name := "treapBack", fn := fun _ => fun
  | [d1, d2, d3] => { results := [.lit (.bool true)], args := [d1, d2, d3] }
  | _ => none }
def treapBackRow : OpenClaim := { program := "ytcfefnhponphjaa", sum := "cfffb5194ee735cef55a5866d6f4f8899d917248bea2a20cb8a691e2b4d62f50", func := "tidewalk/tidewalklaw06.TreapBack", spec := "treapBack", unfollowed := true, recurses := true, apart := false }
def TreapBackSaid : Prop := treapBackRow.holds Try.pinned (OpenSpec.ofChange treapBackSpec)

/-- ITS FALSE NEIGHBOUR: 'it returns false'. Refute it at one input. -/
def treapBackWrong : ChangeSpec := { name := "treapBack", fn := fun _ => fun
  | [d1, d2, d3] => { results := [.lit (.bool false)], args := [d1, d2, d3] }
  | _ => none }
def TreapBackWrongFalsely : Prop := treapBackRow.holds Try.pinned (OpenSpec.ofChange treapBackWrong)

/-- 'tidewalklaw06.TreapKnown': WHATEVER THE INPUT: true; the input reads as it did. -/
def treapKnownSpec : ChangeSpec := { name := "treapKnown", fn := fun _ => fun
  | [] => { results := [.lit (.bool true)], args := [] }
  | _ => none }
def treapKnownRow : OpenClaim := { program := "ytcfefnhponphjaa", sum := "cfffb5194ee735cef55a5866d6f4f8899d917248bea2a20cb8a691e2b4d62f50", func := "tidewalk/tidewalklaw06.TreapKnown", spec := "treapKnown", unfollowed := true, recurses := true, apart := false }
def TreapKnownSaid : Prop := treapKnownRow.holds Try.pinned (OpenSpec.ofChange treapKnownSpec)

/-- ITS FALSE NEIGHBOUR: 'it returns false'. Refute it at one input. -/
def treapKnownWrong : ChangeSpec := { name := "treapKnown", fn := fun _ => fun
  | [] => { results := [.lit (.bool false)], args := [] }
  | _ => none }
def TreapKnownWrongFalsely : Prop := treapKnownRow.holds Try.pinned (OpenSpec.ofChange treapKnownWrong)

/-- 'tidewalklaw06.TreapPlays': WHATEVER THE INPUT: true; the input reads as it did. -/
def treapPlaysSpec : ChangeSpec := { name := "treapPlays", fn := fun _ => fun
  | [d1, d2, d3] => { results := [.lit (.bool true)], args := [d1, d2, d3] }
  | _ => none }
def treapPlaysRow : OpenClaim := { program := "ytcfefnhponphjaa", sum := "cfffb5194ee735cef55a5866d6f4f8899d917248bea2a20cb8a691e2b4d62f50", func := "tidewalk/tidewalklaw06.TreapPlays", spec := "treapPlays", unfollowed := true, recurses := true, apart := false }
def TreapPlaysSaid : Prop := treapPlaysRow.holds Try.pinned (OpenSpec.ofChange treapPlaysSpec)

/-- ITS FALSE NEIGHBOUR: 'it returns false'. Refute it at one input. -/
def treapPlaysWrong : ChangeSpec := { name := "treapPlays", fn := fun _ => fun
  | [d1, d2, d3] => { results := [.lit (.bool false)], args := [d1, d2, d3] }
  | _ => none }
def TreapPlaysWrongFalsely : Prop := treapPlaysRow.holds Try.pinned (OpenSpec.ofChange treapPlaysWrong)

/-- 'tidewalklaw06.TreapNobody': WHATEVER THE INPUT: true; the input reads as it did. -/
def treapNobodySpec : ChangeSpec := { name := "treapNobody", fn := fun _ => fun
  | [d1, d2, d3] => { results := [.lit (.bool true)], args := [d1, d2, d3] }
  | _ => none }
def treapNobodyRow : OpenClaim := { program := "ytcfefnhponphjaa", sum := "cfffb5194ee735cef55a5866d6f4f8899d917248bea2a20cb8a691e2b4d62f50", func := "tidewalk/tidewalklaw06.TreapNobody", spec := "treapNobody", unfollowed := true, recurses := true, apart := false }
def TreapNobodySaid : Prop := treapNobodyRow.holds Try.pinned (OpenSpec.ofChange treapNobodySpec)

/-- ITS FALSE NEIGHBOUR: 'it returns false'. Refute it at one input. -/
def treapNobodyWrong : ChangeSpec := { name := "treapNobody", fn := fun _ => fun
  | [d1, d2, d3] => { results := [.lit (.bool false)], args := [d1, d2, d3] }
  | _ => none }
def TreapNobodyWrongFalsely : Prop := treapNobodyRow.holds Try.pinned (OpenSpec.ofChange treapNobodyWrong)

/-- 'tidewalklaw06.TreapDraws': WHATEVER THE INPUT: true; the input reads as it did. -/
def treapDrawsSpec : ChangeSpec := { name := "treapDraws", fn := fun _ => fun
  | [d1, d2, d3, d4] => { results := [.lit (.bool true)], args := [d1, d2, d3, d4] }
  | _ => none }
def treapDrawsRow : OpenClaim := { program := "ytcfefnhponphjaa", sum := "cfffb5194ee735cef55a5866d6f4f8899d917248bea2a20cb8a691e2b4d62f50", func := "tidewalk/tidewalklaw06.TreapDraws", spec := "treapDraws", unfollowed := true, recurses := true, apart := false }
def TreapDrawsSaid : Prop := treapDrawsRow.holds Try.pinned (OpenSpec.ofChange treapDrawsSpec)

/-- ITS FALSE NEIGHBOUR: 'it returns false'. Refute it at one input. -/
def treapDrawsWrong : ChangeSpec := { name := "treapDraws", fn := fun _ => fun
  | [d1, d2, d3, d4] => { results := [.lit (.bool false)], args := [d1, d2, d3, d4] }
  | _ => none }
def TreapDrawsWrongFalsely : Prop := treapDrawsRow.holds Try.pinned (OpenSpec.ofChange treapDrawsWrong)

/-- 'tidewalklaw06.TreapNext': WHATEVER THE INPUT: true; the input reads as it did. -/
def treapNextSpec : ChangeSpec := { name := "treapNext", fn := fun _ => fun
  | [d1, d2, d3] => { results := [.lit (.bool true)], args := [d1, d2, d3] }
  | _ => none }
def treapNextRow : OpenClaim := { program := "ytcfefnhponphjaa", sum := "cfffb5194ee735cef55a5866d6f4f8899d917248bea2a20cb8a691e2b4d62f50", func := "tidewalk/tidewalklaw06.TreapNext", spec := "treapNext", unfollowed := true, recurses := true, apart := false }
def TreapNextSaid : Prop := treapNextRow.holds Try.pinned (OpenSpec.ofChange treapNextSpec)

/-- ITS FALSE NEIGHBOUR: 'it returns false'. Refute it at one input. -/
def treapNextWrong : ChangeSpec := { name := "treapNext", fn := fun _ => fun
  | [d1, d2, d3] => { results := [.lit (.bool false)], args := [d1, d2, d3] }
  | _ => none }
def TreapNextWrongFalsely : Prop := treapNextRow.holds Try.pinned (OpenSpec.ofChange treapNextWrong)

/- THE SECOND FORM. 'bulk': how many values and letters a reading holds, each counted each time it is reached (what is shared counts as often as it is met; a slice's spare places count too). A statement '..UptoSaid' is the law's where the arguments, and the package variables that the reading takes, are together of bulk at most 1048576: NARROWER than '..Said'. Prove '..Said' where nothing that the law and all that it calls make is longer than what came in: it says more and counts as full. Else prove '..UptoSaid'. A law counts once. -/
mutual
def uptoBulk {H : Type} : DataW H → Nat
  | .lit (.string bytes) => bytes.length + 1
  | .lit _ => 1
  | .nil => 1
  | .ptr d => uptoBulk d + 1
  | .slice elems spare => uptoBulkAll elems + uptoBulkAll spare + 1
  | .agg parts => uptoBulkAll parts + 1
  | .iface _ d => uptoBulk d + 1
  | .map entries => uptoBulkEntries entries + 1
  | .held _ => 1
def uptoBulkAll {H : Type} : List (DataW H) → Nat
  | [] => 0
  | d :: r => uptoBulk d + uptoBulkAll r
def uptoBulkEntries {H : Type} : List (Lit × DataW H) → Nat
  | [] => 0
  | x :: r => uptoBulkEntry x + uptoBulkEntries r
def uptoBulkEntry {H : Type} : Lit × DataW H → Nat
  | (.string bytes, d) => bytes.length + uptoBulk d + 1
  | (_, d) => uptoBulk d + 1
 end
def uptoSmall : (H : Type) → List (DataW H) → Bool := fun _ ds => decide (uptoBulkAll ds ≤ 1048576)
def OpenSpec.upto (s : _root_.Go.ChangeSpec) : _root_.Go.OpenSpec := { _root_.Go.OpenSpec.ofChange s with cond := some uptoSmall }

/-- 'tidewalklaw06.TreapBack', WHERE WHAT IT READS IS OF BULK AT MOST 1048576: true; the input reads as it did. -/
def treapBackUptoRow : OpenClaim := { program := "ytcfefnhponphjaa", sum := "cfffb5194ee735cef55a5866d6f4f8899d917248bea2a20cb8a691e2b4d62f50", func := "tidewalk/tidewalklaw06.TreapBack", spec := "treapBack", unfollowed := true, recurses := true, apart := false, narrowed := true }
def TreapBackUptoSaid : Prop := treapBackUptoRow.holds Try.pinned (OpenSpec.upto treapBackSpec)

/-- 'tidewalklaw06.TreapKnown', WHERE WHAT IT READS IS OF BULK AT MOST 1048576: true; the input reads as it did. -/
def treapKnownUptoRow : OpenClaim := { program := "ytcfefnhponphjaa", sum := "cfffb5194ee735cef55a5866d6f4f8899d917248bea2a20cb8a691e2b4d62f50", func := "tidewalk/tidewalklaw06.TreapKnown", spec := "treapKnown", unfollowed := true, recurses := true, apart := false, narrowed := true }
def TreapKnownUptoSaid : Prop := treapKnownUptoRow.holds Try.pinned (OpenSpec.upto treapKnownSpec)

/-- 'tidewalklaw06.TreapPlays', WHERE WHAT IT READS IS OF BULK AT MOST 1048576: true; the input reads as it did. -/
def treapPlaysUptoRow : OpenClaim := { program := "ytcfefnhponphjaa", sum := "cfffb5194ee735cef55a5866d6f4f8899d917248bea2a20cb8a691e2b4d62f50", func := "tidewalk/tidewalklaw06.TreapPlays", spec := "treapPlays", unfollowed := true, recurses := true, apart := false, narrowed := true }
def TreapPlaysUptoSaid : Prop := treapPlaysUptoRow.holds Try.pinned (OpenSpec.upto treapPlaysSpec)

/-- 'tidewalklaw06.TreapNobody', WHERE WHAT IT READS IS OF BULK AT MOST 1048576: true; the input reads as it did. -/
def treapNobodyUptoRow : OpenClaim := { program := "ytcfefnhponphjaa", sum := "cfffb5194ee735cef55a5866d6f4f8899d917248bea2a20cb8a691e2b4d62f50", func := "tidewalk/tidewalklaw06.TreapNobody", spec := "treapNobody", unfollowed := true, recurses := true, apart := false, narrowed := true }
def TreapNobodyUptoSaid : Prop := treapNobodyUptoRow.holds Try.pinned (OpenSpec.upto treapNobodySpec)

/-- 'tidewalklaw06.TreapDraws', WHERE WHAT IT READS IS OF BULK AT MOST 1048576: true; the input reads as it did. -/
def treapDrawsUptoRow : OpenClaim := { program := "ytcfefnhponphjaa", sum := "cfffb5194ee735cef55a5866d6f4f8899d917248bea2a20cb8a691e2b4d62f50", func := "tidewalk/tidewalklaw06.TreapDraws", spec := "treapDraws", unfollowed := true, recurses := true, apart := false, narrowed := true }
def TreapDrawsUptoSaid : Prop := treapDrawsUptoRow.holds Try.pinned (OpenSpec.upto treapDrawsSpec)

/-- 'tidewalklaw06.TreapNext', WHERE WHAT IT READS IS OF BULK AT MOST 1048576: true; the input reads as it did. -/
def treapNextUptoRow : OpenClaim := { program := "ytcfefnhponphjaa", sum := "cfffb5194ee735cef55a5866d6f4f8899d917248bea2a20cb8a691e2b4d62f50", func := "tidewalk/tidewalklaw06.TreapNext", spec := "treapNext", unfollowed := true, recurses := true, apart := false, narrowed := true }
def TreapNextUptoSaid : Prop := treapNextUptoRow.holds Try.pinned (OpenSpec.upto treapNextSpec)

end Rows
end Go.Proofs.Ytcfefnhponphjaa
