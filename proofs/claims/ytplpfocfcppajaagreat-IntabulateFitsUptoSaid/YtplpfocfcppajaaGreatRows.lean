/-
  No cell of these rows narrows 'for every input' (looked for: loops, veiled, ifaces, maps, wideKeys, modest, calm, conditions, laid).
  DERIVED. THE GIVEN ROWS OF THIS SEAT. 9 by the template 'for every input the law returns true; each argument reads behind the call as it read before'; 0 by the template 'total and deterministic' (their statements: YtplpfocfcppajaaGreatTotals.lean).
  GIVEN WITH THE SEED: the statements are not yours to turn. If you find one false, say at which input.
  Laid BY PROGRAM, IN A SANDBOX (cutbox-rows.mjs): the forced cells as the released guide's own fill.sh prints them over the translation b32643654a9daa39… (all of the seat's roots in one cut). By AI agents, Wed Nov 11 2026. No macro, syntax, notation, axiom, sorry.
-/
import Derived.Test.YtplpfocfcppajaaGreatChecked
import GoSem.Claim
import GoSem.ClaimJoined
import GoSem.ClaimMapViews
import Derived.JoinedTies
import Derived.KernelRfl
namespace Go.Proofs.YtplpfocfcppajaaGreat
/- THE CELL 'sum', in the pinned program and in every row, IS THE sha256 OF THE DUMP (.gsa) THAT YtplpfocfcppajaaGreatProg.lean LOADS. Nothing in Lean hashes anything: it is a label: what it is worth is what the hold of that sum in a sandbox is worth. -/
noncomputable def Tryz.pinned : Pinned := { name := "ytplpfocfcppajaagreat", sum := "b32643654a9daa3936ce4138fbd58001ef695ce2dcc57ea0b0ae66ab5bd74f91", checked := Tryz.checked }
namespace Rows
def none {H : Type} : Left H := { results := [], args := [] }

/-- 'theorbolaw08.IntabulateFits': WHATEVER THE INPUT: true; the input reads as it did. -/
def intabulateFitsSpec : ChangeSpec := { name := "intabulateFits", fn := fun _ => fun
  | [d1, d2] => { results := [.lit (.bool true)], args := [d1, d2] }
  | _ => none }
def intabulateFitsRow : OpenClaim := { program := "ytplpfocfcppajaagreat", sum := "b32643654a9daa3936ce4138fbd58001ef695ce2dcc57ea0b0ae66ab5bd74f91", func := "theorbo/theorbolaw08.IntabulateFits", spec := "intabulateFits", unfollowed := true, recurses := true, apart := false }
def IntabulateFitsSaid : Prop := intabulateFitsRow.holds Tryz.pinned (OpenSpec.ofChange intabulateFitsSpec)

/-- ITS FALSE NEIGHBOUR: 'it returns false'. Refute it at one input. -/
def intabulateFitsWrong : ChangeSpec := { name := "intabulateFits", fn := fun _ => fun
  | [d1, d2] => { results := [.lit (.bool false)], args := [d1, d2] }
  | _ => none }
def IntabulateFitsWrongFalsely : Prop := intabulateFitsRow.holds Tryz.pinned (OpenSpec.ofChange intabulateFitsWrong)

/-- 'theorbolaw08.IntabulateFitBest': WHATEVER THE INPUT: true; the input reads as it did. -/
def intabulateFitBestSpec : ChangeSpec := { name := "intabulateFitBest", fn := fun _ => fun
  | [d1, d2, d3] => { results := [.lit (.bool true)], args := [d1, d2, d3] }
  | _ => none }
def intabulateFitBestRow : OpenClaim := { program := "ytplpfocfcppajaagreat", sum := "b32643654a9daa3936ce4138fbd58001ef695ce2dcc57ea0b0ae66ab5bd74f91", func := "theorbo/theorbolaw08.IntabulateFitBest", spec := "intabulateFitBest", unfollowed := true, recurses := true, apart := false }
def IntabulateFitBestSaid : Prop := intabulateFitBestRow.holds Tryz.pinned (OpenSpec.ofChange intabulateFitBestSpec)

/-- ITS FALSE NEIGHBOUR: 'it returns false'. Refute it at one input. -/
def intabulateFitBestWrong : ChangeSpec := { name := "intabulateFitBest", fn := fun _ => fun
  | [d1, d2, d3] => { results := [.lit (.bool false)], args := [d1, d2, d3] }
  | _ => none }
def IntabulateFitBestWrongFalsely : Prop := intabulateFitBestRow.holds Tryz.pinned (OpenSpec.ofChange intabulateFitBestWrong)

/-- 'theorbolaw08.IntabulateShifts': WHATEVER THE INPUT: true; the input reads as it did. -/
def intabulateShiftsSpec : ChangeSpec := { name := "intabulateShifts", fn := fun _ => fun
  | [d1, d2, d3] => { results := [.lit (.bool true)], args := [d1, d2, d3] }
  | _ => none }
def intabulateShiftsRow : OpenClaim := { program := "ytplpfocfcppajaagreat", sum := "b32643654a9daa3936ce4138fbd58001ef695ce2dcc57ea0b0ae66ab5bd74f91", func := "theorbo/theorbolaw08.IntabulateShifts", spec := "intabulateShifts", unfollowed := true, recurses := true, apart := false }
def IntabulateShiftsSaid : Prop := intabulateShiftsRow.holds Tryz.pinned (OpenSpec.ofChange intabulateShiftsSpec)

/-- ITS FALSE NEIGHBOUR: 'it returns false'. Refute it at one input. -/
def intabulateShiftsWrong : ChangeSpec := { name := "intabulateShifts", fn := fun _ => fun
  | [d1, d2, d3] => { results := [.lit (.bool false)], args := [d1, d2, d3] }
  | _ => none }
def IntabulateShiftsWrongFalsely : Prop := intabulateShiftsRow.holds Tryz.pinned (OpenSpec.ofChange intabulateShiftsWrong)

/-- 'theorbolaw08.IntabulateTables': WHATEVER THE INPUT: true; the input reads as it did. -/
def intabulateTablesSpec : ChangeSpec := { name := "intabulateTables", fn := fun _ => fun
  | [d1, d2, d3] => { results := [.lit (.bool true)], args := [d1, d2, d3] }
  | _ => none }
def intabulateTablesRow : OpenClaim := { program := "ytplpfocfcppajaagreat", sum := "b32643654a9daa3936ce4138fbd58001ef695ce2dcc57ea0b0ae66ab5bd74f91", func := "theorbo/theorbolaw08.IntabulateTables", spec := "intabulateTables", unfollowed := true, recurses := true, apart := false }
def IntabulateTablesSaid : Prop := intabulateTablesRow.holds Tryz.pinned (OpenSpec.ofChange intabulateTablesSpec)

/-- ITS FALSE NEIGHBOUR: 'it returns false'. Refute it at one input. -/
def intabulateTablesWrong : ChangeSpec := { name := "intabulateTables", fn := fun _ => fun
  | [d1, d2, d3] => { results := [.lit (.bool false)], args := [d1, d2, d3] }
  | _ => none }
def IntabulateTablesWrongFalsely : Prop := intabulateTablesRow.holds Tryz.pinned (OpenSpec.ofChange intabulateTablesWrong)

/-- 'theorbolaw08.IntabulateAdorns': WHATEVER THE INPUT: true; the input reads as it did. -/
def intabulateAdornsSpec : ChangeSpec := { name := "intabulateAdorns", fn := fun _ => fun
  | [d1, d2, d3] => { results := [.lit (.bool true)], args := [d1, d2, d3] }
  | _ => none }
def intabulateAdornsRow : OpenClaim := { program := "ytplpfocfcppajaagreat", sum := "b32643654a9daa3936ce4138fbd58001ef695ce2dcc57ea0b0ae66ab5bd74f91", func := "theorbo/theorbolaw08.IntabulateAdorns", spec := "intabulateAdorns", unfollowed := true, recurses := true, apart := false }
def IntabulateAdornsSaid : Prop := intabulateAdornsRow.holds Tryz.pinned (OpenSpec.ofChange intabulateAdornsSpec)

/-- ITS FALSE NEIGHBOUR: 'it returns false'. Refute it at one input. -/
def intabulateAdornsWrong : ChangeSpec := { name := "intabulateAdorns", fn := fun _ => fun
  | [d1, d2, d3] => { results := [.lit (.bool false)], args := [d1, d2, d3] }
  | _ => none }
def IntabulateAdornsWrongFalsely : Prop := intabulateAdornsRow.holds Tryz.pinned (OpenSpec.ofChange intabulateAdornsWrong)

/-- 'theorbolaw08.IntabulateDivides': WHATEVER THE INPUT: true; the input reads as it did. -/
def intabulateDividesSpec : ChangeSpec := { name := "intabulateDivides", fn := fun _ => fun
  | [d1, d2, d3] => { results := [.lit (.bool true)], args := [d1, d2, d3] }
  | _ => none }
def intabulateDividesRow : OpenClaim := { program := "ytplpfocfcppajaagreat", sum := "b32643654a9daa3936ce4138fbd58001ef695ce2dcc57ea0b0ae66ab5bd74f91", func := "theorbo/theorbolaw08.IntabulateDivides", spec := "intabulateDivides", unfollowed := true, recurses := true, apart := false }
def IntabulateDividesSaid : Prop := intabulateDividesRow.holds Tryz.pinned (OpenSpec.ofChange intabulateDividesSpec)

/-- ITS FALSE NEIGHBOUR: 'it returns false'. Refute it at one input. -/
def intabulateDividesWrong : ChangeSpec := { name := "intabulateDivides", fn := fun _ => fun
  | [d1, d2, d3] => { results := [.lit (.bool false)], args := [d1, d2, d3] }
  | _ => none }
def IntabulateDividesWrongFalsely : Prop := intabulateDividesRow.holds Tryz.pinned (OpenSpec.ofChange intabulateDividesWrong)

/-- 'theorbolaw08.IntabulateAdorned': WHATEVER THE INPUT: true; the input reads as it did. -/
def intabulateAdornedSpec : ChangeSpec := { name := "intabulateAdorned", fn := fun _ => fun
  | [d1, d2, d3] => { results := [.lit (.bool true)], args := [d1, d2, d3] }
  | _ => none }
def intabulateAdornedRow : OpenClaim := { program := "ytplpfocfcppajaagreat", sum := "b32643654a9daa3936ce4138fbd58001ef695ce2dcc57ea0b0ae66ab5bd74f91", func := "theorbo/theorbolaw08.IntabulateAdorned", spec := "intabulateAdorned", unfollowed := true, recurses := true, apart := false }
def IntabulateAdornedSaid : Prop := intabulateAdornedRow.holds Tryz.pinned (OpenSpec.ofChange intabulateAdornedSpec)

/-- ITS FALSE NEIGHBOUR: 'it returns false'. Refute it at one input. -/
def intabulateAdornedWrong : ChangeSpec := { name := "intabulateAdorned", fn := fun _ => fun
  | [d1, d2, d3] => { results := [.lit (.bool false)], args := [d1, d2, d3] }
  | _ => none }
def IntabulateAdornedWrongFalsely : Prop := intabulateAdornedRow.holds Tryz.pinned (OpenSpec.ofChange intabulateAdornedWrong)

/-- 'theorbolaw08.IntabulateUndivides': WHATEVER THE INPUT: true; the input reads as it did. -/
def intabulateUndividesSpec : ChangeSpec := { name := "intabulateUndivides", fn := fun _ => fun
  | [d1, d2, d3] => { results := [.lit (.bool true)], args := [d1, d2, d3] }
  | _ => none }
def intabulateUndividesRow : OpenClaim := { program := "ytplpfocfcppajaagreat", sum := "b32643654a9daa3936ce4138fbd58001ef695ce2dcc57ea0b0ae66ab5bd74f91", func := "theorbo/theorbolaw08.IntabulateUndivides", spec := "intabulateUndivides", unfollowed := true, recurses := true, apart := false }
def IntabulateUndividesSaid : Prop := intabulateUndividesRow.holds Tryz.pinned (OpenSpec.ofChange intabulateUndividesSpec)

/-- ITS FALSE NEIGHBOUR: 'it returns false'. Refute it at one input. -/
def intabulateUndividesWrong : ChangeSpec := { name := "intabulateUndivides", fn := fun _ => fun
  | [d1, d2, d3] => { results := [.lit (.bool false)], args := [d1, d2, d3] }
  | _ => none }
def IntabulateUndividesWrongFalsely : Prop := intabulateUndividesRow.holds Tryz.pinned (OpenSpec.ofChange intabulateUndividesWrong)

/-- 'theorbolaw08.IntabulateDivided': WHATEVER THE INPUT: true; the input reads as it did. -/
def intabulateDividedSpec : ChangeSpec := { name := "intabulateDivided", fn := fun _ => fun
  | [d1, d2, d3] => { results := [.lit (.bool true)], args := [d1, d2, d3] }
  | _ => none }
def intabulateDividedRow : OpenClaim := { program := "ytplpfocfcppajaagreat", sum := "b32643654a9daa3936ce4138fbd58001ef695ce2dcc57ea0b0ae66ab5bd74f91", func := "theorbo/theorbolaw08.IntabulateDivided", spec := "intabulateDivided", unfollowed := true, recurses := true, apart := false }
def IntabulateDividedSaid : Prop := intabulateDividedRow.holds Tryz.pinned (OpenSpec.ofChange intabulateDividedSpec)

/-- ITS FALSE NEIGHBOUR: 'it returns false'. Refute it at one input. -/
def intabulateDividedWrong : ChangeSpec := { name := "intabulateDivided", fn := fun _ => fun
  | [d1, d2, d3] => { results := [.lit (.bool false)], args := [d1, d2, d3] }
  | _ => none }
def IntabulateDividedWrongFalsely : Prop := intabulateDividedRow.holds Tryz.pinned (OpenSpec.ofChange intabulateDividedWrong)

/- THE SECOND FORM. 'bulk': how many values and letters a reading holds, each counted each time it is reached (what is shared counts as often as it is met; a slice's spare places count too). A statement '..UptoSaid' is the law's where the arguments, and the package variables that the reading takes, are together of bulk at most 1048576: NARROWER than '..Said'. Prove '..Said' where nothing that the law and all that it calls make is longer than what came in: it says more and counts as full. Else prove '..UptoSaid'. A law counts once. -/
mutual
def uptoBulk {H : Type} : DataW H → Nat
  | .lit (.string bytes) => bytes.length + 1
  | .lit _ => 1
  | .nil => 1
  | .ptr d => uptoBulk d + 1
  | .slice elems spare => uptoBulkAll elems + uptoBulkAll spare + 1
  | .agg parts => uptoBulkAll parts + 1
  | .iface _ d => uptoBulk d + 1
  | .map entries => uptoBulkEntries entries + 1
  | .held _ => 1
def uptoBulkAll {H : Type} : List (DataW H) → Nat
  | [] => 0
  | d :: r => uptoBulk d + uptoBulkAll r
def uptoBulkEntries {H : Type} : List (Lit × DataW H) → Nat
  | [] => 0
  | x :: r => uptoBulkEntry x + uptoBulkEntries r
def uptoBulkEntry {H : Type} : Lit × DataW H → Nat
  | (.string bytes, d) => bytes.length + uptoBulk d + 1
  | (_, d) => uptoBulk d + 1
 end
def uptoSmall : (H : Type) → List (DataW H) → Bool := fun _ ds => decide (uptoBulkAll ds ≤ 1048576)
def OpenSpec.upto (s : _root_.Go.ChangeSpec) : _root_.Go.OpenSpec := { _root_.Go.OpenSpec.ofChange s with cond := some uptoSmall }

/-- 'theorbolaw08.IntabulateFits', WHERE WHAT IT READS IS OF BULK AT MOST 1048576: true; the input reads as it did. -/
def intabulateFitsUptoRow : OpenClaim := { program := "ytplpfocfcppajaagreat", sum := "b32643654a9daa3936ce4138fbd58001ef695ce2dcc57ea0b0ae66ab5bd74f91", func := "theorbo/theorbolaw08.IntabulateFits", spec := "intabulateFits", unfollowed := true, recurses := true, apart := false, narrowed := true }
def IntabulateFitsUptoSaid : Prop := intabulateFitsUptoRow.holds Tryz.pinned (OpenSpec.upto intabulateFitsSpec)

/-- 'theorbolaw08.IntabulateFitBest', WHERE WHAT IT READS IS OF BULK AT MOST 1048576: true; the input reads as it did. -/
def intabulateFitBestUptoRow : OpenClaim := { program := "ytplpfocfcppajaagreat", sum := "b32643654a9daa3936ce4138fbd58001ef695ce2dcc57ea0b0ae66ab5bd74f91", func := "theorbo/theorbolaw08.IntabulateFitBest", spec := "intabulateFitBest", unfollowed := true, recurses := true, apart := false, narrowed := true }
def IntabulateFitBestUptoSaid : Prop := intabulateFitBestUptoRow.holds Tryz.pinned (OpenSpec.upto intabulateFitBestSpec)

/-- 'theorbolaw08.IntabulateShifts', WHERE WHAT IT READS IS OF BULK AT MOST 1048576: true; the input reads as it did. -/
def intabulateShiftsUptoRow : OpenClaim := { program := "ytplpfocfcppajaagreat", sum := "b32643654a9daa3936ce4138fbd58001ef695ce2dcc57ea0b0ae66ab5bd74f91", func := "theorbo/theorbolaw08.IntabulateShifts", spec := "intabulateShifts", unfollowed := true, recurses := true, apart := false, narrowed := true }
def IntabulateShiftsUptoSaid : Prop := intabulateShiftsUptoRow.holds Tryz.pinned (OpenSpec.upto intabulateShiftsSpec)

/-- 'theorbolaw08.IntabulateTables', WHERE WHAT IT READS IS OF BULK AT MOST 1048576: true; the input reads as it did. -/
def intabulateTablesUptoRow : OpenClaim := { program := "ytplpfocfcppajaagreat", sum := "b32643654a9daa3936ce4138fbd58001ef695ce2dcc57ea0b0ae66ab5bd74f91", func := "theorbo/theorbolaw08.IntabulateTables", spec := "intabulateTables", unfollowed := true, recurses := true, apart := false, narrowed := true }
def IntabulateTablesUptoSaid : Prop := intabulateTablesUptoRow.holds Tryz.pinned (OpenSpec.upto intabulateTablesSpec)

/-- 'theorbolaw08.IntabulateAdorns', WHERE WHAT IT READS IS OF BULK AT MOST 1048576: true; the input reads as it did. -/
def intabulateAdornsUptoRow : OpenClaim := { program := "ytplpfocfcppajaagreat", sum := "b32643654a9daa3936ce4138fbd58001ef695ce2dcc57ea0b0ae66ab5bd74f91", func := "theorbo/theorbolaw08.IntabulateAdorns", spec := "intabulateAdorns", unfollowed := true, recurses := true, apart := false, narrowed := true }
def IntabulateAdornsUptoSaid : Prop := intabulateAdornsUptoRow.holds Tryz.pinned (OpenSpec.upto intabulateAdornsSpec)

/-- 'theorbolaw08.IntabulateDivides', WHERE WHAT IT READS IS OF BULK AT MOST 1048576: true; the input reads as it did. -/
def intabulateDividesUptoRow : OpenClaim := { program := "ytplpfocfcppajaagreat", sum := "b32643654a9daa3936ce4138fbd58001ef695ce2dcc57ea0b0ae66ab5bd74f91", func := "theorbo/theorbolaw08.IntabulateDivides", spec := "intabulateDivides", unfollowed := true, recurses := true, apart := false, narrowed := true }
def IntabulateDividesUptoSaid : Prop := intabulateDividesUptoRow.holds Tryz.pinned (OpenSpec.upto intabulateDividesSpec)

/-- 'theorbolaw08.IntabulateAdorned', WHERE WHAT IT READS IS OF BULK AT MOST 1048576: true; the input reads as it did. -/
def intabulateAdornedUptoRow : OpenClaim := { program := "ytplpfocfcppajaagreat", sum := "b32643654a9daa3936ce4138fbd58001ef695ce2dcc57ea0b0ae66ab5bd74f91", func := "theorbo/theorbolaw08.IntabulateAdorned", spec := "intabulateAdorned", unfollowed := true, recurses := true, apart := false, narrowed := true }
def IntabulateAdornedUptoSaid : Prop := intabulateAdornedUptoRow.holds Tryz.pinned (OpenSpec.upto intabulateAdornedSpec)

/-- 'theorbolaw08.IntabulateUndivides', WHERE WHAT IT READS IS OF BULK AT MOST 1048576: true; the input reads as it did. -/
def intabulateUndividesUptoRow : OpenClaim := { program := "ytplpfocfcppajaagreat", sum := "b32643654a9daa3936ce4138fbd58001ef695ce2dcc57ea0b0ae66ab5bd74f91", func := "theorbo/theorbolaw08.IntabulateUndivides", spec := "intabulateUndivides", unfollowed := true, recurses := true, apart := false, narrowed := true }
def IntabulateUndividesUptoSaid : Prop := intabulateUndividesUptoRow.holds Tryz.pinned (OpenSpec.upto intabulateUndividesSpec)

/-- 'theorbolaw08.IntabulateDivided', WHERE WHAT IT READS IS OF BULK AT MOST 1048576: true; the input reads as it did. -/
def intabulateDividedUptoRow : OpenClaim := { program := "ytplpfocfcppajaagreat", sum := "b32643654a9daa3936ce4138fbd58001ef695ce2dcc57ea0b0ae66ab5bd74f91", func := "theorbo/theorbolaw08.IntabulateDivided", spec := "intabulateDivided", unfollowed := true, recurses := true, apart := false, narrowed := true }
def IntabulateDividedUptoSaid : Prop := intabulateDividedUptoRow.holds Tryz.pinned (OpenSpec.upto intabulateDividedSpec)

end Rows
end Go.Proofs.YtplpfocfcppajaaGreat
