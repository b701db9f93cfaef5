/-
  No cell of these rows narrows 'for every input' (looked for: loops, veiled, ifaces, maps, wideKeys, modest, calm, conditions, laid).
  DERIVED. THE GIVEN ROWS OF THIS SEAT. 5 by the template 'for every input the law returns true; each argument reads behind the call as it read before'; 0 by the template 'total and deterministic' (their statements: YtjeihigmneepcaaTotals.lean).
  GIVEN WITH THE SEED: the statements are not yours to turn. If you find one false, say at which input.
  Laid BY PROGRAM, IN A SANDBOX (cutbox-rows.mjs): the forced cells as the released guide's own fill.sh prints them over the translation afff2553a2bed705… (all of the seat's roots in one cut). By AI agents, Wed Nov 11 2026. No macro, syntax, notation, axiom, sorry.
-/
import Derived.Test.YtjeihigmneepcaaChecked
import GoSem.Claim
import GoSem.ClaimJoined
import GoSem.ClaimMapViews
import Derived.JoinedTies
import Derived.KernelRfl
namespace Go.Proofs.Ytjeihigmneepcaa
/- THE CELL 'sum', in the pinned program and in every row, IS THE sha256 OF THE DUMP (.gsa) THAT YtjeihigmneepcaaProg.lean LOADS. Nothing in Lean hashes anything: it is a label: what it is worth is what the hold of that sum in a sandbox is worth. -/
noncomputable def Try.pinned : Pinned := { name := "ytjeihigmneepcaa", sum := "afff2553a2bed705badb918a6aca1bafbdbdd413ecc79a32e6b380baab606482", checked := Try.checked }
namespace Rows
def none {H : Type} : Left H := { results := [], args := [] }

/-- 'fathomlaw16.VecAsks': WHATEVER THE INPUT: true; the input reads as it did. -/
def vecAsksSpec : ChangeSpec := { name := "vecAsks", fn := fun _ => fun
  | [d1, d2, d3] => { results := [.lit (.bool true)], args := [d1, d2, d3] }
  | _ => none }
def vecAsksRow : OpenClaim := { program := "ytjeihigmneepcaa", sum := "afff2553a2bed705badb918a6aca1bafbdbdd413ecc79a32e6b380baab606482", func := "fathom/fathomlaw16.VecAsks", spec := "vecAsks", unfollowed := true, recurses := true, plainKeys := false, apart := false }
def VecAsksSaid : Prop := vecAsksRow.holds Try.pinned (OpenSpec.ofChange vecAsksSpec)

/-- ITS FALSE NEIGHBOUR: 'it returns false'. Refute it at one input. -/
def vecAsksWrong : ChangeSpec := { name := "vecAsks", fn := fun _ => fun
  | [d1, d2, d3] => { results := [.lit (.bool false)], args := [d1, d2, d3] }
  | _ => none }
def VecAsksWrongFalsely : Prop := vecAsksRow.holds Try.pinned (OpenSpec.ofChange vecAsksWrong)

/-- 'fathomlaw16.VecChecks': WHATEVER THE INPUT: true; the input reads as it did. -/
def vecChecksSpec : ChangeSpec := { name := "vecChecks", fn := fun _ => fun
  | [d1, d2, d3] => { results := [.lit (.bool true)], args := [d1, d2, d3] }
  | _ => none }
def vecChecksRow : OpenClaim := { program := "ytjeihigmneepcaa", sum := "afff2553a2bed705badb918a6aca1bafbdbdd413ecc79a32e6b380baab606482", func := "fathom/fathomlaw16.VecChecks", spec := "vecChecks", unfollowed := true, recurses := true, plainKeys := false, apart := false }
def VecChecksSaid : Prop := vecChecksRow.holds Try.pinned (OpenSpec.ofChange vecChecksSpec)

/-- ITS FALSE NEIGHBOUR: 'it returns false'. Refute it at one input. -/
def vecChecksWrong : ChangeSpec := { name := "vecChecks", fn := fun _ => fun
  | [d1, d2, d3] => { results := [.lit (.bool false)], args := [d1, d2, d3] }
  | _ => none }
def VecChecksWrongFalsely : Prop := vecChecksRow.holds Try.pinned (OpenSpec.ofChange vecChecksWrong)

/-- 'fathomlaw17.CardOne': WHATEVER THE INPUT: true; the input reads as it did. -/
def cardOneSpec : ChangeSpec := { name := "cardOne", fn := fun _ => fun
  | [d1, d2, d3] => { results := [.lit (.bool true)], args := [d1, d2, d3] }
  | _ => none }
def cardOneRow : OpenClaim := { program := "ytjeihigmneepcaa", sum := "afff2553a2bed705badb918a6aca1bafbdbdd413ecc79a32e6b380baab606482", func := "fathom/fathomlaw17.CardOne", spec := "cardOne", unfollowed := true, recurses := true, plainKeys := false, apart := false }
def CardOneSaid : Prop := cardOneRow.holds Try.pinned (OpenSpec.ofChange cardOneSpec)

/-- ITS FALSE NEIGHBOUR: 'it returns false'. Refute it at one input. -/
def cardOneWrong : ChangeSpec := { name := "cardOne", fn := fun _ => fun
  | [d1, d2, d3] => { results := [.lit (.bool false)], args := [d1, d2, d3] }
  | _ => none }
def CardOneWrongFalsely : Prop := cardOneRow.holds Try.pinned (OpenSpec.ofChange cardOneWrong)

/-- 'fathomlaw17.CardAsks': WHATEVER THE INPUT: true; the input reads as it did. -/
def cardAsksSpec : ChangeSpec := { name := "cardAsks", fn := fun _ => fun
  | [d1, d2, d3] => { results := [.lit (.bool true)], args := [d1, d2, d3] }
  | _ => none }
def cardAsksRow : OpenClaim := { program := "ytjeihigmneepcaa", sum := "afff2553a2bed705badb918a6aca1bafbdbdd413ecc79a32e6b380baab606482", func := "fathom/fathomlaw17.CardAsks", spec := "cardAsks", unfollowed := true, recurses := true, plainKeys := false, apart := false }
def CardAsksSaid : Prop := cardAsksRow.holds Try.pinned (OpenSpec.ofChange cardAsksSpec)

/-- ITS FALSE NEIGHBOUR: 'it returns false'. Refute it at one input. -/
def cardAsksWrong : ChangeSpec := { name := "cardAsks", fn := fun _ => fun
  | [d1, d2, d3] => { results := [.lit (.bool false)], args := [d1, d2, d3] }
  | _ => none }
def CardAsksWrongFalsely : Prop := cardAsksRow.holds Try.pinned (OpenSpec.ofChange cardAsksWrong)

/-- 'fathomlaw17.CardCounts': WHATEVER THE INPUT: true; the input reads as it did. -/
def cardCountsSpec : ChangeSpec := { name := "cardCounts", fn := fun _ => fun
  | [d1, d2, d3] => { results := [.lit (.bool true)], args := [d1, d2, d3] }
  | _ => none }
def cardCountsRow : OpenClaim := { program := "ytjeihigmneepcaa", sum := "afff2553a2bed705badb918a6aca1bafbdbdd413ecc79a32e6b380baab606482", func := "fathom/fathomlaw17.CardCounts", spec := "cardCounts", unfollowed := true, recurses := true, plainKeys := false, apart := false }
def CardCountsSaid : Prop := cardCountsRow.holds Try.pinned (OpenSpec.ofChange cardCountsSpec)

/-- ITS FALSE NEIGHBOUR: 'it returns false'. Refute it at one input. -/
def cardCountsWrong : ChangeSpec := { name := "cardCounts", fn := fun _ => fun
  | [d1, d2, d3] => { results := [.lit (.bool false)], args := [d1, d2, d3] }
  | _ => none }
def CardCountsWrongFalsely : Prop := cardCountsRow.holds Try.pinned (OpenSpec.ofChange cardCountsWrong)

/- THE SECOND FORM. 'bulk': how many values and letters a reading holds, each counted each time it is reached (what is shared counts as often as it is met; a slice's spare places count too). A statement '..UptoSaid' is the law's where the arguments, and the package variables that the reading takes, are together of bulk at most 1048576: NARROWER than '..Said'. Prove '..Said' where nothing that the law and all that it calls make is longer than what came in: it says more and counts as full. Else prove '..UptoSaid'. A law counts once. -/
mutual
def uptoBulk {H : Type} : DataW H → Nat
  | .lit (.string bytes) => bytes.length + 1
  | .lit _ => 1
  | .nil => 1
  | .ptr d => uptoBulk d + 1
  | .slice elems spare => uptoBulkAll elems + uptoBulkAll spare + 1
  | .agg parts => uptoBulkAll parts + 1
  | .iface _ d => uptoBulk d + 1
  | .map entries => uptoBulkEntries entries + 1
  | .held _ => 1
def uptoBulkAll {H : Type} : List (DataW H) → Nat
  | [] => 0
  | d :: r => uptoBulk d + uptoBulkAll r
def uptoBulkEntries {H : Type} : List (Lit × DataW H) → Nat
  | [] => 0
  | x :: r => uptoBulkEntry x + uptoBulkEntries r
def uptoBulkEntry {H : Type} : Lit × DataW H → Nat
  | (.string bytes, d) => bytes.length + uptoBulk d + 1
  | (_, d) => uptoBulk d + 1
 end
def uptoSmall : (H : Type) → List (DataW H) → Bool := fun _ ds => decide (uptoBulkAll ds ≤ 1048576)
def OpenSpec.upto (s : _root_.Go.ChangeSpec) : _root_.Go.OpenSpec := { _root_.Go.OpenSpec.ofChange s with cond := some uptoSmall }

/-- 'fathomlaw16.VecAsks', WHERE WHAT IT READS IS OF BULK AT MOST 1048576: true; the input reads as it did. -/
def vecAsksUptoRow : OpenClaim := { program := "ytjeihigmneepcaa", sum := "afff2553a2bed705badb918a6aca1bafbdbdd413ecc79a32e6b380baab606482", func := "fathom/fathomlaw16.VecAsks", spec := "vecAsks", unfollowed := true, recurses := true, plainKeys := false, apart := false, narrowed := true }
def VecAsksUptoSaid : Prop := vecAsksUptoRow.holds Try.pinned (OpenSpec.upto vecAsksSpec)

/-- 'fathomlaw16.VecChecks', WHERE WHAT IT READS IS OF BULK AT MOST 1048576: true; the input reads as it did. -/
def vecChecksUptoRow : OpenClaim := { program := "ytjeihigmneepcaa", sum := "afff2553a2bed705badb918a6aca1bafbdbdd413ecc79a32e6b380baab606482", func := "fathom/fathomlaw16.VecChecks", spec := "vecChecks", unfollowed := true, recurses := true, plainKeys := false, apart := false, narrowed := true }
def VecChecksUptoSaid : Prop := vecChecksUptoRow.holds Try.pinned (OpenSpec.upto vecChecksSpec)

/-- 'fathomlaw17.CardOne', WHERE WHAT IT READS IS OF BULK AT MOST 1048576: true; the input reads as it did. -/
def cardOneUptoRow : OpenClaim := { program := "ytjeihigmneepcaa", sum := "afff2553a2bed705badb918a6aca1bafbdbdd413ecc79a32e6b380baab606482", func := "fathom/fathomlaw17.CardOne", spec := "cardOne", unfollowed := true, recurses := true, plainKeys := false, apart := false, narrowed := true }
def CardOneUptoSaid : Prop := cardOneUptoRow.holds Try.pinned (OpenSpec.upto cardOneSpec)

/-- 'fathomlaw17.CardAsks', WHERE WHAT IT READS IS OF BULK AT MOST 1048576: true; the input reads as it did. -/
def cardAsksUptoRow : OpenClaim := { program := "ytjeihigmneepcaa", sum := "afff2553a2bed705badb918a6aca1bafbdbdd413ecc79a32e6b380baab606482", func := "fathom/fathomlaw17.CardAsks", spec := "cardAsks", unfollowed := true, recurses := true, plainKeys := false, apart := false, narrowed := true }
def CardAsksUptoSaid : Prop := cardAsksUptoRow.holds Try.pinned (OpenSpec.upto cardAsksSpec)

/-- 'fathomlaw17.CardCounts', WHERE WHAT IT READS IS OF BULK AT MOST 1048576: true; the input reads as it did. -/
def cardCountsUptoRow : OpenClaim := { program := "ytjeihigmneepcaa", sum := "afff2553a2bed705badb918a6aca1bafbdbdd413ecc79a32e6b380baab606482", func := "fathom/fathomlaw17.CardCounts", spec := "cardCounts", unfollowed := true, recurses := true, plainKeys := false, apart := false, narrowed := true }
def CardCountsUptoSaid : Prop := cardCountsUptoRow.holds Try.pinned (OpenSpec.upto cardCountsSpec)

end Rows
end Go.Proofs.Ytjeihigmneepcaa
