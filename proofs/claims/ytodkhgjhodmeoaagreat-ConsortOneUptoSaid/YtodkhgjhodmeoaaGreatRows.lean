/-
  No cell of these rows narrows 'for every input' (looked for: loops, veiled, ifaces, maps, wideKeys, modest, calm, conditions, laid).
  DERIVED. THE GIVEN ROWS OF THIS SEAT. 6 by the template 'for every input the law returns true; each argument reads behind the call as it read before'; 0 by the template 'total and deterministic' (their statements: YtodkhgjhodmeoaaGreatTotals.lean).
  GIVEN WITH THE SEED: the statements are not yours to turn. If you find one false, say at which input.
  Laid BY PROGRAM, IN A SANDBOX (cutbox-rows.mjs): the forced cells as the released guide's own fill.sh prints them over the translation 9cc41797086fea4a… (all of the seat's roots in one cut). By AI agents, Wed Nov 11 2026. No macro, syntax, notation, axiom, sorry.
-/
import Derived.Test.YtodkhgjhodmeoaaGreatChecked
import GoSem.Claim
import GoSem.ClaimJoined
import GoSem.ClaimMapViews
import Derived.JoinedTies
import Derived.KernelRfl
namespace Go.Proofs.YtodkhgjhodmeoaaGreat
/- THE CELL 'sum', in the pinned program and in every row, IS THE sha256 OF THE DUMP (.gsa) THAT YtodkhgjhodmeoaaGreatProg.lean LOADS. Nothing in Lean hashes anything: it is a label: what it is worth is what the hold of that sum in a sandbox is worth. -/
noncomputable def Tryz.pinned : Pinned := { name := "ytodkhgjhodmeoaagreat", sum := "9cc41797086fea4a075c26810fc9096cec7f83f88ca833fac8c2de3bf1e714de", checked := Tryz.checked }
namespace Rows
def none {H : Type} : Left H := { results := [], args := [] }

/-- 'theorbolaw09.ConsortPlays': WHATEVER THE INPUT: true; the input reads as it did. -/
def consortPlaysSpec : ChangeSpec := { name := "consortPlays", fn := fun _ => fun
  | [d1, d2] => { results := [.lit (.bool true)], args := [d1, d2] }
  | _ => none }
def consortPlaysRow : OpenClaim := { program := "ytodkhgjhodmeoaagreat", sum := "9cc41797086fea4a075c26810fc9096cec7f83f88ca833fac8c2de3bf1e714de", func := "theorbo/theorbolaw09.ConsortPlays", spec := "consortPlays", inPlace := ["slices.overlaps[theorbo/consort.live]"], unfollowed := true, recurses := true, apart := false }
def ConsortPlaysSaid : Prop := consortPlaysRow.holds Tryz.pinned (OpenSpec.ofChange consortPlaysSpec)

/-- ITS FALSE NEIGHBOUR: 'it returns false'. Refute it at one input. -/
def consortPlaysWrong : ChangeSpec := { name := "consortPlays", fn := fun _ => fun
  | [d1, d2] => { results := [.lit (.bool false)], args := [d1, d2] }
  | _ => none }
def ConsortPlaysWrongFalsely : Prop := consortPlaysRow.holds Tryz.pinned (OpenSpec.ofChange consortPlaysWrong)

/-- 'theorbolaw09.ConsortChecks': WHATEVER THE INPUT: true; the input reads as it did. -/
def consortChecksSpec : ChangeSpec := { name := "consortChecks", fn := fun _ => fun
  | [d] => { results := [.lit (.bool true)], args := [d] }
  | _ => none }
def consortChecksRow : OpenClaim := { program := "ytodkhgjhodmeoaagreat", sum := "9cc41797086fea4a075c26810fc9096cec7f83f88ca833fac8c2de3bf1e714de", func := "theorbo/theorbolaw09.ConsortChecks", spec := "consortChecks", inPlace := ["slices.overlaps[theorbo/consort.live]"], unfollowed := true, recurses := true, apart := false }
def ConsortChecksSaid : Prop := consortChecksRow.holds Tryz.pinned (OpenSpec.ofChange consortChecksSpec)

/-- ITS FALSE NEIGHBOUR: 'it returns false'. Refute it at one input. -/
def consortChecksWrong : ChangeSpec := { name := "consortChecks", fn := fun _ => fun
  | [d] => { results := [.lit (.bool false)], args := [d] }
  | _ => none }
def ConsortChecksWrongFalsely : Prop := consortChecksRow.holds Tryz.pinned (OpenSpec.ofChange consortChecksWrong)

/-- 'theorbolaw09.ConsortScores': WHATEVER THE INPUT: true; the input reads as it did. -/
def consortScoresSpec : ChangeSpec := { name := "consortScores", fn := fun _ => fun
  | [d] => { results := [.lit (.bool true)], args := [d] }
  | _ => none }
def consortScoresRow : OpenClaim := { program := "ytodkhgjhodmeoaagreat", sum := "9cc41797086fea4a075c26810fc9096cec7f83f88ca833fac8c2de3bf1e714de", func := "theorbo/theorbolaw09.ConsortScores", spec := "consortScores", inPlace := ["slices.overlaps[theorbo/consort.live]"], unfollowed := true, recurses := true, apart := false }
def ConsortScoresSaid : Prop := consortScoresRow.holds Tryz.pinned (OpenSpec.ofChange consortScoresSpec)

/-- ITS FALSE NEIGHBOUR: 'it returns false'. Refute it at one input. -/
def consortScoresWrong : ChangeSpec := { name := "consortScores", fn := fun _ => fun
  | [d] => { results := [.lit (.bool false)], args := [d] }
  | _ => none }
def ConsortScoresWrongFalsely : Prop := consortScoresRow.holds Tryz.pinned (OpenSpec.ofChange consortScoresWrong)

/-- 'theorbolaw09.ConsortOne': WHATEVER THE INPUT: true; the input reads as it did. -/
def consortOneSpec : ChangeSpec := { name := "consortOne", fn := fun _ => fun
  | [d] => { results := [.lit (.bool true)], args := [d] }
  | _ => none }
def consortOneRow : OpenClaim := { program := "ytodkhgjhodmeoaagreat", sum := "9cc41797086fea4a075c26810fc9096cec7f83f88ca833fac8c2de3bf1e714de", func := "theorbo/theorbolaw09.ConsortOne", spec := "consortOne", inPlace := ["slices.overlaps[theorbo/consort.live]"], unfollowed := true, recurses := true, apart := false }
def ConsortOneSaid : Prop := consortOneRow.holds Tryz.pinned (OpenSpec.ofChange consortOneSpec)

/-- ITS FALSE NEIGHBOUR: 'it returns false'. Refute it at one input. -/
def consortOneWrong : ChangeSpec := { name := "consortOne", fn := fun _ => fun
  | [d] => { results := [.lit (.bool false)], args := [d] }
  | _ => none }
def ConsortOneWrongFalsely : Prop := consortOneRow.holds Tryz.pinned (OpenSpec.ofChange consortOneWrong)

/-- 'theorbolaw09.ConsortDiscords': WHATEVER THE INPUT: true; the input reads as it did. -/
def consortDiscordsSpec : ChangeSpec := { name := "consortDiscords", fn := fun _ => fun
  | [d] => { results := [.lit (.bool true)], args := [d] }
  | _ => none }
def consortDiscordsRow : OpenClaim := { program := "ytodkhgjhodmeoaagreat", sum := "9cc41797086fea4a075c26810fc9096cec7f83f88ca833fac8c2de3bf1e714de", func := "theorbo/theorbolaw09.ConsortDiscords", spec := "consortDiscords", inPlace := ["slices.overlaps[theorbo/consort.live]"], unfollowed := true, recurses := true, apart := false }
def ConsortDiscordsSaid : Prop := consortDiscordsRow.holds Tryz.pinned (OpenSpec.ofChange consortDiscordsSpec)

/-- ITS FALSE NEIGHBOUR: 'it returns false'. Refute it at one input. -/
def consortDiscordsWrong : ChangeSpec := { name := "consortDiscords", fn := fun _ => fun
  | [d] => { results := [.lit (.bool false)], args := [d] }
  | _ => none }
def ConsortDiscordsWrongFalsely : Prop := consortDiscordsRow.holds Tryz.pinned (OpenSpec.ofChange consortDiscordsWrong)

/-- 'theorbolaw09.ConsortAllots': WHATEVER THE INPUT: true; the input reads as it did. -/
def consortAllotsSpec : ChangeSpec := { name := "consortAllots", fn := fun _ => fun
  | [d1, d2, d3] => { results := [.lit (.bool true)], args := [d1, d2, d3] }
  | _ => none }
def consortAllotsRow : OpenClaim := { program := "ytodkhgjhodmeoaagreat", sum := "9cc41797086fea4a075c26810fc9096cec7f83f88ca833fac8c2de3bf1e714de", func := "theorbo/theorbolaw09.ConsortAllots", spec := "consortAllots", inPlace := ["slices.overlaps[theorbo/consort.live]"], unfollowed := true, recurses := true, apart := false }
def ConsortAllotsSaid : Prop := consortAllotsRow.holds Tryz.pinned (OpenSpec.ofChange consortAllotsSpec)

/-- ITS FALSE NEIGHBOUR: 'it returns false'. Refute it at one input. -/
def consortAllotsWrong : ChangeSpec := { name := "consortAllots", fn := fun _ => fun
  | [d1, d2, d3] => { results := [.lit (.bool false)], args := [d1, d2, d3] }
  | _ => none }
def ConsortAllotsWrongFalsely : Prop := consortAllotsRow.holds Tryz.pinned (OpenSpec.ofChange consortAllotsWrong)

/- THE SECOND FORM. 'bulk': how many values and letters a reading holds, each counted each time it is reached (what is shared counts as often as it is met; a slice's spare places count too). A statement '..UptoSaid' is the law's where the arguments, and the package variables that the reading takes, are together of bulk at most 1048576: NARROWER than '..Said'. Prove '..Said' where nothing that the law and all that it calls make is longer than what came in: it says more and counts as full. Else prove '..UptoSaid'. A law counts once. -/
mutual
def uptoBulk {H : Type} : DataW H → Nat
  | .lit (.string bytes) => bytes.length + 1
  | .lit _ => 1
  | .nil => 1
  | .ptr d => uptoBulk d + 1
  | .slice elems spare => uptoBulkAll elems + uptoBulkAll spare + 1
  | .agg parts => uptoBulkAll parts + 1
  | .iface _ d => uptoBulk d + 1
  | .map entries => uptoBulkEntries entries + 1
  | .held _ => 1
def uptoBulkAll {H : Type} : List (DataW H) → Nat
  | [] => 0
  | d :: r => uptoBulk d + uptoBulkAll r
def uptoBulkEntries {H : Type} : List (Lit × DataW H) → Nat
  | [] => 0
  | x :: r => uptoBulkEntry x + uptoBulkEntries r
def uptoBulkEntry {H : Type} : Lit × DataW H → Nat
  | (.string bytes, d) => bytes.length + uptoBulk d + 1
  | (_, d) => uptoBulk d + 1
 end
def uptoSmall : (H : Type) → List (DataW H) → Bool := fun _ ds => decide (uptoBulkAll ds ≤ 1048576)
def OpenSpec.upto (s : _root_.Go.ChangeSpec) : _root_.Go.OpenSpec := { _root_.Go.OpenSpec.ofChange s with cond := some uptoSmall }

/-- 'theorbolaw09.ConsortPlays', WHERE WHAT IT READS IS OF BULK AT MOST 1048576: true; the input reads as it did. -/
def consortPlaysUptoRow : OpenClaim := { program := "ytodkhgjhodmeoaagreat", sum := "9cc41797086fea4a075c26810fc9096cec7f83f88ca833fac8c2de3bf1e714de", func := "theorbo/theorbolaw09.ConsortPlays", spec := "consortPlays", inPlace := ["slices.overlaps[theorbo/consort.live]"], unfollowed := true, recurses := true, apart := false, narrowed := true }
def ConsortPlaysUptoSaid : Prop := consortPlaysUptoRow.holds Tryz.pinned (OpenSpec.upto consortPlaysSpec)

/-- 'theorbolaw09.ConsortChecks', WHERE WHAT IT READS IS OF BULK AT MOST 1048576: true; the input reads as it did. -/
def consortChecksUptoRow : OpenClaim := { program := "ytodkhgjhodmeoaagreat", sum := "9cc41797086fea4a075c26810fc9096cec7f83f88ca833fac8c2de3bf1e714de", func := "theorbo/theorbolaw09.ConsortChecks", spec := "consortChecks", inPlace := ["slices.overlaps[theorbo/consort.live]"], unfollowed := true, recurses := true, apart := false, narrowed := true }
def ConsortChecksUptoSaid : Prop := consortChecksUptoRow.holds Tryz.pinned (OpenSpec.upto consortChecksSpec)

/-- 'theorbolaw09.ConsortScores', WHERE WHAT IT READS IS OF BULK AT MOST 1048576: true; the input reads as it did. -/
def consortScoresUptoRow : OpenClaim := { program := "ytodkhgjhodmeoaagreat", sum := "9cc41797086fea4a075c26810fc9096cec7f83f88ca833fac8c2de3bf1e714de", func := "theorbo/theorbolaw09.ConsortScores", spec := "consortScores", inPlace := ["slices.overlaps[theorbo/consort.live]"], unfollowed := true, recurses := true, apart := false, narrowed := true }
def ConsortScoresUptoSaid : Prop := consortScoresUptoRow.holds Tryz.pinned (OpenSpec.upto consortScoresSpec)

/-- 'theorbolaw09.ConsortOne', WHERE WHAT IT READS IS OF BULK AT MOST 1048576: true; the input reads as it did. -/
def consortOneUptoRow : OpenClaim := { program := "ytodkhgjhodmeoaagreat", sum := "9cc41797086fea4a075c26810fc9096cec7f83f88ca833fac8c2de3bf1e714de", func := "theorbo/theorbolaw09.ConsortOne", spec := "consortOne", inPlace := ["slices.overlaps[theorbo/consort.live]"], unfollowed := true, recurses := true, apart := false, narrowed := true }
def ConsortOneUptoSaid : Prop := consortOneUptoRow.holds Tryz.pinned (OpenSpec.upto consortOneSpec)

/-- 'theorbolaw09.ConsortDiscords', WHERE WHAT IT READS IS OF BULK AT MOST 1048576: true; the input reads as it did. -/
def consortDiscordsUptoRow : OpenClaim := { program := "ytodkhgjhodmeoaagreat", sum := "9cc41797086fea4a075c26810fc9096cec7f83f88ca833fac8c2de3bf1e714de", func := "theorbo/theorbolaw09.ConsortDiscords", spec := "consortDiscords", inPlace := ["slices.overlaps[theorbo/consort.live]"], unfollowed := true, recurses := true, apart := false, narrowed := true }
def ConsortDiscordsUptoSaid : Prop := consortDiscordsUptoRow.holds Tryz.pinned (OpenSpec.upto consortDiscordsSpec)

/-- 'theorbolaw09.ConsortAllots', WHERE WHAT IT READS IS OF BULK AT MOST 1048576: true; the input reads as it did. -/
def consortAllotsUptoRow : OpenClaim := { program := "ytodkhgjhodmeoaagreat", sum := "9cc41797086fea4a075c26810fc9096cec7f83f88ca833fac8c2de3bf1e714de", func := "theorbo/theorbolaw09.ConsortAllots", spec := "consortAllots", inPlace := ["slices.overlaps[theorbo/consort.live]"], unfollowed := true, recurses := true, apart := false, narrowed := true }
def ConsortAllotsUptoSaid : Prop := consortAllotsUptoRow.holds Tryz.pinned (OpenSpec.upto consortAllotsSpec)

end Rows
end Go.Proofs.YtodkhgjhodmeoaaGreat
