/-
  No cell of these rows narrows 'for every input' (looked for: loops, veiled, ifaces, maps, wideKeys, modest, calm, conditions, laid).
  DERIVED. THE GIVEN ROWS OF THIS SEAT. 6 by the template 'for every input the law returns true; each argument reads behind the call as it read before'; 0 by the template 'total and deterministic' (their statements: YtpljabnngpnieaaTotals.lean).
  GIVEN WITH THE SEED: the statements are not yours to turn. If you find one false, say at which input.
  Laid BY PROGRAM, IN A SANDBOX (cutbox-rows.mjs): the forced cells as the released guide's own fill.sh prints them over the translation eea652511983abe3… (all of the seat's roots in one cut). By AI agents, Wed Nov 11 2026. No macro, syntax, notation, axiom, sorry.
-/
import Derived.Test.YtpljabnngpnieaaChecked
import GoSem.Claim
import GoSem.ClaimJoined
import GoSem.ClaimMapViews
import Derived.JoinedTies
import Derived.KernelRfl
namespace Go.Proofs.Ytpljabnngpnieaa
/- THE CELL 'sum', in the pinned program and in every row, IS THE sha256 OF THE DUMP (.gsa) THAT YtpljabnngpnieaaProg.lean LOADS. Nothing in Lean hashes anything: it is a label: what it is worth is what the hold of that sum in a sandbox is worth. -/
noncomputable def Try.pinned : Pinned := { name := "ytpljabnngpnieaa", sum := "eea652511983abe3a2d0cd50fff3c98796b6f3684814a14c8dcefb5183a770e2", checked := Try.checked }
namespace Rows
def none {H : Type} : Left H := { results := [], args := [] }

/-- 'theorbolaw09.ConsortSeeks': WHATEVER THE INPUT: true; the input reads as it did. -/
def consortSeeksSpec : ChangeSpec := { name := "consortSeeks", fn := fun _ => fun
  | [d1, d2, d3] => { results := [.lit (.bool true)], args := [d1, d2, d3] }
  | _ => none }
def consortSeeksRow : OpenClaim := { program := "ytpljabnngpnieaa", sum := "eea652511983abe3a2d0cd50fff3c98796b6f3684814a14c8dcefb5183a770e2", func := "theorbo/theorbolaw09.ConsortSeeks", spec := "consortSeeks", inPlace := ["slices.overlaps[theorbo/consort.live]"], unfollowed := true, recurses := true, apart := false }
def ConsortSeeksSaid : Prop := consortSeeksRow.holds Try.pinned (OpenSpec.ofChange consortSeeksSpec)

/-- ITS FALSE NEIGHBOUR: 'it returns false'. Refute it at one input. -/
def consortSeeksWrong : ChangeSpec := { name := "consortSeeks", fn := fun _ => fun
  | [d1, d2, d3] => { results := [.lit (.bool false)], args := [d1, d2, d3] }
  | _ => none }
def ConsortSeeksWrongFalsely : Prop := consortSeeksRow.holds Try.pinned (OpenSpec.ofChange consortSeeksWrong)

/-- 'theorbolaw09.ConsortRepeats': WHATEVER THE INPUT: true; the input reads as it did. -/
def consortRepeatsSpec : ChangeSpec := { name := "consortRepeats", fn := fun _ => fun
  | [d1, d2, d3] => { results := [.lit (.bool true)], args := [d1, d2, d3] }
  | _ => none }
def consortRepeatsRow : OpenClaim := { program := "ytpljabnngpnieaa", sum := "eea652511983abe3a2d0cd50fff3c98796b6f3684814a14c8dcefb5183a770e2", func := "theorbo/theorbolaw09.ConsortRepeats", spec := "consortRepeats", inPlace := ["slices.overlaps[theorbo/consort.live]"], unfollowed := true, recurses := true, apart := false }
def ConsortRepeatsSaid : Prop := consortRepeatsRow.holds Try.pinned (OpenSpec.ofChange consortRepeatsSpec)

/-- ITS FALSE NEIGHBOUR: 'it returns false'. Refute it at one input. -/
def consortRepeatsWrong : ChangeSpec := { name := "consortRepeats", fn := fun _ => fun
  | [d1, d2, d3] => { results := [.lit (.bool false)], args := [d1, d2, d3] }
  | _ => none }
def ConsortRepeatsWrongFalsely : Prop := consortRepeatsRow.holds Try.pinned (OpenSpec.ofChange consortRepeatsWrong)

/-- 'theorbolaw09.ConsortEnds': WHATEVER THE INPUT: true; the input reads as it did. -/
def consortEndsSpec : ChangeSpec := { name := "consortEnds", fn := fun _ => fun
  | [d] => { results := [.lit (.bool true)], args := [d] }
  | _ => none }
def consortEndsRow : OpenClaim := { program := "ytpljabnngpnieaa", sum := "eea652511983abe3a2d0cd50fff3c98796b6f3684814a14c8dcefb5183a770e2", func := "theorbo/theorbolaw09.ConsortEnds", spec := "consortEnds", inPlace := ["slices.overlaps[theorbo/consort.live]"], unfollowed := true, recurses := true, apart := false }
def ConsortEndsSaid : Prop := consortEndsRow.holds Try.pinned (OpenSpec.ofChange consortEndsSpec)

/-- ITS FALSE NEIGHBOUR: 'it returns false'. Refute it at one input. -/
def consortEndsWrong : ChangeSpec := { name := "consortEnds", fn := fun _ => fun
  | [d] => { results := [.lit (.bool false)], args := [d] }
  | _ => none }
def ConsortEndsWrongFalsely : Prop := consortEndsRow.holds Try.pinned (OpenSpec.ofChange consortEndsWrong)

/-- 'theorbolaw09.ConsortSilent': WHATEVER THE INPUT: true; the input reads as it did. -/
def consortSilentSpec : ChangeSpec := { name := "consortSilent", fn := fun _ => fun
  | [d1, d2] => { results := [.lit (.bool true)], args := [d1, d2] }
  | _ => none }
def consortSilentRow : OpenClaim := { program := "ytpljabnngpnieaa", sum := "eea652511983abe3a2d0cd50fff3c98796b6f3684814a14c8dcefb5183a770e2", func := "theorbo/theorbolaw09.ConsortSilent", spec := "consortSilent", inPlace := ["slices.overlaps[theorbo/consort.live]"], unfollowed := true, recurses := true, apart := false }
def ConsortSilentSaid : Prop := consortSilentRow.holds Try.pinned (OpenSpec.ofChange consortSilentSpec)

/-- ITS FALSE NEIGHBOUR: 'it returns false'. Refute it at one input. -/
def consortSilentWrong : ChangeSpec := { name := "consortSilent", fn := fun _ => fun
  | [d1, d2] => { results := [.lit (.bool false)], args := [d1, d2] }
  | _ => none }
def ConsortSilentWrongFalsely : Prop := consortSilentRow.holds Try.pinned (OpenSpec.ofChange consortSilentWrong)

/-- 'theorbolaw09.ConsortBalance': WHATEVER THE INPUT: true; the input reads as it did. -/
def consortBalanceSpec : ChangeSpec := { name := "consortBalance", fn := fun _ => fun
  | [d1, d2] => { results := [.lit (.bool true)], args := [d1, d2] }
  | _ => none }
def consortBalanceRow : OpenClaim := { program := "ytpljabnngpnieaa", sum := "eea652511983abe3a2d0cd50fff3c98796b6f3684814a14c8dcefb5183a770e2", func := "theorbo/theorbolaw09.ConsortBalance", spec := "consortBalance", inPlace := ["slices.overlaps[theorbo/consort.live]"], unfollowed := true, recurses := true, apart := false }
def ConsortBalanceSaid : Prop := consortBalanceRow.holds Try.pinned (OpenSpec.ofChange consortBalanceSpec)

/-- ITS FALSE NEIGHBOUR: 'it returns false'. Refute it at one input. -/
def consortBalanceWrong : ChangeSpec := { name := "consortBalance", fn := fun _ => fun
  | [d1, d2] => { results := [.lit (.bool false)], args := [d1, d2] }
  | _ => none }
def ConsortBalanceWrongFalsely : Prop := consortBalanceRow.holds Try.pinned (OpenSpec.ofChange consortBalanceWrong)

/-- 'theorbolaw09.ConsortNil': WHATEVER THE INPUT: true; the input reads as it did. -/
def consortNilSpec : ChangeSpec := { name := "consortNil", fn := fun _ => fun
  | [d1, d2, d3] => { results := [.lit (.bool true)], args := [d1, d2, d3] }
  | _ => none }
def consortNilRow : OpenClaim := { program := "ytpljabnngpnieaa", sum := "eea652511983abe3a2d0cd50fff3c98796b6f3684814a14c8dcefb5183a770e2", func := "theorbo/theorbolaw09.ConsortNil", spec := "consortNil", inPlace := ["slices.overlaps[theorbo/consort.live]"], unfollowed := true, recurses := true, apart := false }
def ConsortNilSaid : Prop := consortNilRow.holds Try.pinned (OpenSpec.ofChange consortNilSpec)

/-- ITS FALSE NEIGHBOUR: 'it returns false'. Refute it at one input. -/
def consortNilWrong : ChangeSpec := { name := "consortNil", fn := fun _ => fun
  | [d1, d2, d3] => { results := [.lit (.bool false)], args := [d1, d2, d3] }
  | _ => none }
def ConsortNilWrongFalsely : Prop := consortNilRow.holds Try.pinned (OpenSpec.ofChange consortNilWrong)

/- THE SECOND FORM. 'bulk': how many values and letters a reading holds, each counted each time it is reached (what is shared counts as often as it is met; a slice's spare places count too). A statement '..UptoSaid' is the law's where the arguments, and the package variables that the reading takes, are together of bulk at most 1048576: NARROWER than '..Said'. Prove '..Said' where nothing that the law and all that it calls make is longer than what came in: it says more and counts as full. Else prove '..UptoSaid'. A law counts once. -/
mutual
def uptoBulk {H : Type} : DataW H → Nat
  | .lit (.string bytes) => bytes.length + 1
  | .lit _ => 1
  | .nil => 1
  | .ptr d => uptoBulk d + 1
  | .slice elems spare => uptoBulkAll elems + uptoBulkAll spare + 1
  | .agg parts => uptoBulkAll parts + 1
  | .iface _ d => uptoBulk d + 1
  | .map entries => uptoBulkEntries entries + 1
  | .held _ => 1
def uptoBulkAll {H : Type} : List (DataW H) → Nat
  | [] => 0
  | d :: r => uptoBulk d + uptoBulkAll r
def uptoBulkEntries {H : Type} : List (Lit × DataW H) → Nat
  | [] => 0
  | x :: r => uptoBulkEntry x + uptoBulkEntries r
def uptoBulkEntry {H : Type} : Lit × DataW H → Nat
  | (.string bytes, d) => bytes.length + uptoBulk d + 1
  | (_, d) => uptoBulk d + 1
 end
def uptoSmall : (H : Type) → List (DataW H) → Bool := fun _ ds => decide (uptoBulkAll ds ≤ 1048576)
def OpenSpec.upto (s : _root_.Go.ChangeSpec) : _root_.Go.OpenSpec := { _root_.Go.OpenSpec.ofChange s with cond := some uptoSmall }

/-- 'theorbolaw09.ConsortSeeks', WHERE WHAT IT READS IS OF BULK AT MOST 1048576: true; the input reads as it did. -/
def consortSeeksUptoRow : OpenClaim := { program := "ytpljabnngpnieaa", sum := "eea652511983abe3a2d0cd50fff3c98796b6f3684814a14c8dcefb5183a770e2", func := "theorbo/theorbolaw09.ConsortSeeks", spec := "consortSeeks", inPlace := ["slices.overlaps[theorbo/consort.live]"], unfollowed := true, recurses := true, apart := false, narrowed := true }
def ConsortSeeksUptoSaid : Prop := consortSeeksUptoRow.holds Try.pinned (OpenSpec.upto consortSeeksSpec)

/-- 'theorbolaw09.ConsortRepeats', WHERE WHAT IT READS IS OF BULK AT MOST 1048576: true; the input reads as it did. -/
def consortRepeatsUptoRow : OpenClaim := { program := "ytpljabnngpnieaa", sum := "eea652511983abe3a2d0cd50fff3c98796b6f3684814a14c8dcefb5183a770e2", func := "theorbo/theorbolaw09.ConsortRepeats", spec := "consortRepeats", inPlace := ["slices.overlaps[theorbo/consort.live]"], unfollowed := true, recurses := true, apart := false, narrowed := true }
def ConsortRepeatsUptoSaid : Prop := consortRepeatsUptoRow.holds Try.pinned (OpenSpec.upto consortRepeatsSpec)

/-- 'theorbolaw09.ConsortEnds', WHERE WHAT IT READS IS OF BULK AT MOST 1048576: true; the input reads as it did. -/
def consortEndsUptoRow : OpenClaim := { program := "ytpljabnngpnieaa", sum := "eea652511983abe3a2d0cd50fff3c98796b6f3684814a14c8dcefb5183a770e2", func := "theorbo/theorbolaw09.ConsortEnds", spec := "consortEnds", inPlace := ["slices.overlaps[theorbo/consort.live]"], unfollowed := true, recurses := true, apart := false, narrowed := true }
def ConsortEndsUptoSaid : Prop := consortEndsUptoRow.holds Try.pinned (OpenSpec.upto consortEndsSpec)

/-- 'theorbolaw09.ConsortSilent', WHERE WHAT IT READS IS OF BULK AT MOST 1048576: true; the input reads as it did. -/
def consortSilentUptoRow : OpenClaim := { program := "ytpljabnngpnieaa", sum := "eea652511983abe3a2d0cd50fff3c98796b6f3684814a14c8dcefb5183a770e2", func := "theorbo/theorbolaw09.ConsortSilent", spec := "consortSilent", inPlace := ["slices.overlaps[theorbo/consort.live]"], unfollowed := true, recurses := true, apart := false, narrowed := true }
def ConsortSilentUptoSaid : Prop := consortSilentUptoRow.holds Try.pinned (OpenSpec.upto consortSilentSpec)

/-- 'theorbolaw09.ConsortBalance', WHERE WHAT IT READS IS OF BULK AT MOST 1048576: true; the input reads as it did. -/
def consortBalanceUptoRow : OpenClaim := { program := "ytpljabnngpnieaa", sum := "eea652511983abe3a2d0cd50fff3c98796b6f3684814a14c8dcefb5183a770e2", func := "theorbo/theorbolaw09.ConsortBalance", spec := "consortBalance", inPlace := ["slices.overlaps[theorbo/consort.live]"], unfollowed := true, recurses := true, apart := false, narrowed := true }
def ConsortBalanceUptoSaid : Prop := consortBalanceUptoRow.holds Try.pinned (OpenSpec.upto consortBalanceSpec)

/-- 'theorbolaw09.ConsortNil', WHERE WHAT IT READS IS OF BULK AT MOST 1048576: true; the input reads as it did. -/
def consortNilUptoRow : OpenClaim := { program := "ytpljabnngpnieaa", sum := "eea652511983abe3a2d0cd50fff3c98796b6f3684814a14c8dcefb5183a770e2", func := "theorbo/theorbolaw09.ConsortNil", spec := "consortNil", inPlace := ["slices.overlaps[theorbo/consort.live]"], unfollowed := true, recurses := true, apart := false, narrowed := true }
def ConsortNilUptoSaid : Prop := consortNilUptoRow.holds Try.pinned (OpenSpec.upto consortNilSpec)

end Rows
end Go.Proofs.Ytpljabnngpnieaa
