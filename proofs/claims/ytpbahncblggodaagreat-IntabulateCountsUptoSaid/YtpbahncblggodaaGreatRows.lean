/-
  No cell of these rows narrows 'for every input' (looked for: loops, veiled, ifaces, maps, wideKeys, modest, calm, conditions, laid).
  DERIVED. THE GIVEN ROWS OF THIS SEAT. 6 by the template 'for every input the law returns true; each argument reads behind the call as it read before'; 0 by the template 'total and deterministic' (their statements: YtpbahncblggodaaGreatTotals.lean).
  GIVEN WITH THE SEED: the statements are not yours to turn. If you find one false, say at which input.
  Laid BY PROGRAM, IN A SANDBOX (cutbox-rows.mjs): the forced cells as the released guide's own fill.sh prints them over the translation 7219d11c44d37d8b… (all of the seat's roots in one cut). By AI agents, Wed Nov 11 2026. No macro, syntax, notation, axiom, sorry.
-/
import Derived.Test.YtpbahncblggodaaGreatChecked
import GoSem.Claim
import GoSem.ClaimJoined
import GoSem.ClaimMapViews
import Derived.JoinedTies
import Derived.KernelRfl
namespace Go.Proofs.YtpbahncblggodaaGreat
/- THE CELL 'sum', in the pinned program and in every row, IS THE sha256 OF THE DUMP (.gsa) THAT YtpbahncblggodaaGreatProg.lean LOADS. Nothing in Lean hashes anything: it is a label: what it is worth is what the hold of that sum in a sandbox is worth. -/
noncomputable def Tryz.pinned : Pinned := { name := "ytpbahncblggodaagreat", sum := "7219d11c44d37d8be7184fa49e7664353109b5882be036f044d8f1c29fac21d3", checked := Tryz.checked }
namespace Rows
def none {H : Type} : Left H := { results := [], args := [] }

/-- 'theorbolaw08.IntabulateSets': WHATEVER THE INPUT: true; the input reads as it did. -/
def intabulateSetsSpec : ChangeSpec := { name := "intabulateSets", fn := fun _ => fun
  | [d] => { results := [.lit (.bool true)], args := [d] }
  | _ => none }
def intabulateSetsRow : OpenClaim := { program := "ytpbahncblggodaagreat", sum := "7219d11c44d37d8be7184fa49e7664353109b5882be036f044d8f1c29fac21d3", func := "theorbo/theorbolaw08.IntabulateSets", spec := "intabulateSets", unfollowed := true, recurses := true, apart := false }
def IntabulateSetsSaid : Prop := intabulateSetsRow.holds Tryz.pinned (OpenSpec.ofChange intabulateSetsSpec)

/-- ITS FALSE NEIGHBOUR: 'it returns false'. Refute it at one input. -/
def intabulateSetsWrong : ChangeSpec := { name := "intabulateSets", fn := fun _ => fun
  | [d] => { results := [.lit (.bool false)], args := [d] }
  | _ => none }
def IntabulateSetsWrongFalsely : Prop := intabulateSetsRow.holds Tryz.pinned (OpenSpec.ofChange intabulateSetsWrong)

/-- 'theorbolaw08.IntabulateAlone': WHATEVER THE INPUT: true; the input reads as it did. -/
def intabulateAloneSpec : ChangeSpec := { name := "intabulateAlone", fn := fun _ => fun
  | [d1, d2, d3] => { results := [.lit (.bool true)], args := [d1, d2, d3] }
  | _ => none }
def intabulateAloneRow : OpenClaim := { program := "ytpbahncblggodaagreat", sum := "7219d11c44d37d8be7184fa49e7664353109b5882be036f044d8f1c29fac21d3", func := "theorbo/theorbolaw08.IntabulateAlone", spec := "intabulateAlone", unfollowed := true, recurses := true, apart := false }
def IntabulateAloneSaid : Prop := intabulateAloneRow.holds Tryz.pinned (OpenSpec.ofChange intabulateAloneSpec)

/-- ITS FALSE NEIGHBOUR: 'it returns false'. Refute it at one input. -/
def intabulateAloneWrong : ChangeSpec := { name := "intabulateAlone", fn := fun _ => fun
  | [d1, d2, d3] => { results := [.lit (.bool false)], args := [d1, d2, d3] }
  | _ => none }
def IntabulateAloneWrongFalsely : Prop := intabulateAloneRow.holds Tryz.pinned (OpenSpec.ofChange intabulateAloneWrong)

/-- 'theorbolaw08.IntabulateAutos': WHATEVER THE INPUT: true; the input reads as it did. -/
def intabulateAutosSpec : ChangeSpec := { name := "intabulateAutos", fn := fun _ => fun
  | [d] => { results := [.lit (.bool true)], args := [d] }
  | _ => none }
def intabulateAutosRow : OpenClaim := { program := "ytpbahncblggodaagreat", sum := "7219d11c44d37d8be7184fa49e7664353109b5882be036f044d8f1c29fac21d3", func := "theorbo/theorbolaw08.IntabulateAutos", spec := "intabulateAutos", unfollowed := true, recurses := true, apart := false }
def IntabulateAutosSaid : Prop := intabulateAutosRow.holds Tryz.pinned (OpenSpec.ofChange intabulateAutosSpec)

/-- ITS FALSE NEIGHBOUR: 'it returns false'. Refute it at one input. -/
def intabulateAutosWrong : ChangeSpec := { name := "intabulateAutos", fn := fun _ => fun
  | [d] => { results := [.lit (.bool false)], args := [d] }
  | _ => none }
def IntabulateAutosWrongFalsely : Prop := intabulateAutosRow.holds Tryz.pinned (OpenSpec.ofChange intabulateAutosWrong)

/-- 'theorbolaw08.IntabulateSounds': WHATEVER THE INPUT: true; the input reads as it did. -/
def intabulateSoundsSpec : ChangeSpec := { name := "intabulateSounds", fn := fun _ => fun
  | [d] => { results := [.lit (.bool true)], args := [d] }
  | _ => none }
def intabulateSoundsRow : OpenClaim := { program := "ytpbahncblggodaagreat", sum := "7219d11c44d37d8be7184fa49e7664353109b5882be036f044d8f1c29fac21d3", func := "theorbo/theorbolaw08.IntabulateSounds", spec := "intabulateSounds", unfollowed := true, recurses := true, apart := false }
def IntabulateSoundsSaid : Prop := intabulateSoundsRow.holds Tryz.pinned (OpenSpec.ofChange intabulateSoundsSpec)

/-- ITS FALSE NEIGHBOUR: 'it returns false'. Refute it at one input. -/
def intabulateSoundsWrong : ChangeSpec := { name := "intabulateSounds", fn := fun _ => fun
  | [d] => { results := [.lit (.bool false)], args := [d] }
  | _ => none }
def IntabulateSoundsWrongFalsely : Prop := intabulateSoundsRow.holds Tryz.pinned (OpenSpec.ofChange intabulateSoundsWrong)

/-- 'theorbolaw08.IntabulateCounts': WHATEVER THE INPUT: true; the input reads as it did. -/
def intabulateCountsSpec : ChangeSpec := { name := "intabulateCounts", fn := fun _ => fun
  | [d] => { results := [.lit (.bool true)], args := [d] }
  | _ => none }
def intabulateCountsRow : OpenClaim := { program := "ytpbahncblggodaagreat", sum := "7219d11c44d37d8be7184fa49e7664353109b5882be036f044d8f1c29fac21d3", func := "theorbo/theorbolaw08.IntabulateCounts", spec := "intabulateCounts", unfollowed := true, recurses := true, apart := false }
def IntabulateCountsSaid : Prop := intabulateCountsRow.holds Tryz.pinned (OpenSpec.ofChange intabulateCountsSpec)

/-- ITS FALSE NEIGHBOUR: 'it returns false'. Refute it at one input. -/
def intabulateCountsWrong : ChangeSpec := { name := "intabulateCounts", fn := fun _ => fun
  | [d] => { results := [.lit (.bool false)], args := [d] }
  | _ => none }
def IntabulateCountsWrongFalsely : Prop := intabulateCountsRow.holds Tryz.pinned (OpenSpec.ofChange intabulateCountsWrong)

/-- 'theorbolaw08.IntabulatePlays': WHATEVER THE INPUT: true; the input reads as it did. -/
def intabulatePlaysSpec : ChangeSpec := { name := "intabulatePlays", fn := fun _ => fun
  | [d] => { results := [.lit (.bool true)], args := [d] }
  | _ => none }
def intabulatePlaysRow : OpenClaim := { program := "ytpbahncblggodaagreat", sum := "7219d11c44d37d8be7184fa49e7664353109b5882be036f044d8f1c29fac21d3", func := "theorbo/theorbolaw08.IntabulatePlays", spec := "intabulatePlays", unfollowed := true, recurses := true, apart := false }
def IntabulatePlaysSaid : Prop := intabulatePlaysRow.holds Tryz.pinned (OpenSpec.ofChange intabulatePlaysSpec)

/-- ITS FALSE NEIGHBOUR: 'it returns false'. Refute it at one input. -/
def intabulatePlaysWrong : ChangeSpec := { name := "intabulatePlays", fn := fun _ => fun
  | [d] => { results := [.lit (.bool false)], args := [d] }
  | _ => none }
def IntabulatePlaysWrongFalsely : Prop := intabulatePlaysRow.holds Tryz.pinned (OpenSpec.ofChange intabulatePlaysWrong)

/- THE SECOND FORM. 'bulk': how many values and letters a reading holds, each counted each time it is reached (what is shared counts as often as it is met; a slice's spare places count too). A statement '..UptoSaid' is the law's where the arguments, and the package variables that the reading takes, are together of bulk at most 1048576: NARROWER than '..Said'. Prove '..Said' where nothing that the law and all that it calls make is longer than what came in: it says more and counts as full. Else prove '..UptoSaid'. A law counts once. -/
mutual
def uptoBulk {H : Type} : DataW H → Nat
  | .lit (.string bytes) => bytes.length + 1
  | .lit _ => 1
  | .nil => 1
  | .ptr d => uptoBulk d + 1
  | .slice elems spare => uptoBulkAll elems + uptoBulkAll spare + 1
  | .agg parts => uptoBulkAll parts + 1
  | .iface _ d => uptoBulk d + 1
  | .map entries => uptoBulkEntries entries + 1
  | .held _ => 1
def uptoBulkAll {H : Type} : List (DataW H) → Nat
  | [] => 0
  | d :: r => uptoBulk d + uptoBulkAll r
def uptoBulkEntries {H : Type} : List (Lit × DataW H) → Nat
  | [] => 0
  | x :: r => uptoBulkEntry x + uptoBulkEntries r
def uptoBulkEntry {H : Type} : Lit × DataW H → Nat
  | (.string bytes, d) => bytes.length + uptoBulk d + 1
  | (_, d) => uptoBulk d + 1
 end
def uptoSmall : (H : Type) → List (DataW H) → Bool := fun _ ds => decide (uptoBulkAll ds ≤ 1048576)
def OpenSpec.upto (s : _root_.Go.ChangeSpec) : _root_.Go.OpenSpec := { _root_.Go.OpenSpec.ofChange s with cond := some uptoSmall }

/-- 'theorbolaw08.IntabulateSets', WHERE WHAT IT READS IS OF BULK AT MOST 1048576: true; the input reads as it did. -/
def intabulateSetsUptoRow : OpenClaim := { program := "ytpbahncblggodaagreat", sum := "7219d11c44d37d8be7184fa49e7664353109b5882be036f044d8f1c29fac21d3", func := "theorbo/theorbolaw08.IntabulateSets", spec := "intabulateSets", unfollowed := true, recurses := true, apart := false, narrowed := true }
def IntabulateSetsUptoSaid : Prop := intabulateSetsUptoRow.holds Tryz.pinned (OpenSpec.upto intabulateSetsSpec)

/-- 'theorbolaw08.IntabulateAlone', WHERE WHAT IT READS IS OF BULK AT MOST 1048576: true; the input reads as it did. -/
def intabulateAloneUptoRow : OpenClaim := { program := "ytpbahncblggodaagreat", sum := "7219d11c44d37d8be7184fa49e7664353109b5882be036f044d8f1c29fac21d3", func := "theorbo/theorbolaw08.IntabulateAlone", spec := "intabulateAlone", unfollowed := true, recurses := true, apart := false, narrowed := true }
def IntabulateAloneUptoSaid : Prop := intabulateAloneUptoRow.holds Tryz.pinned (OpenSpec.upto intabulateAloneSpec)

/-- 'theorbolaw08.IntabulateAutos', WHERE WHAT IT READS IS OF BULK AT MOST 1048576: true; the input reads as it did. -/
def intabulateAutosUptoRow : OpenClaim := { program := "ytpbahncblggodaagreat", sum := "7219d11c44d37d8be7184fa49e7664353109b5882be036f044d8f1c29fac21d3", func := "theorbo/theorbolaw08.IntabulateAutos", spec := "intabulateAutos", unfollowed := true, recurses := true, apart := false, narrowed := true }
def IntabulateAutosUptoSaid : Prop := intabulateAutosUptoRow.holds Tryz.pinned (OpenSpec.upto intabulateAutosSpec)

/-- 'theorbolaw08.IntabulateSounds', WHERE WHAT IT READS IS OF BULK AT MOST 1048576: true; the input reads as it did. -/
def intabulateSoundsUptoRow : OpenClaim := { program := "ytpbahncblggodaagreat", sum := "7219d11c44d37d8be7184fa49e7664353109b5882be036f044d8f1c29fac21d3", func := "theorbo/theorbolaw08.IntabulateSounds", spec := "intabulateSounds", unfollowed := true, recurses := true, apart := false, narrowed := true }
def IntabulateSoundsUptoSaid : Prop := intabulateSoundsUptoRow.holds Tryz.pinned (OpenSpec.upto intabulateSoundsSpec)

/-- 'theorbolaw08.IntabulateCounts', WHERE WHAT IT READS IS OF BULK AT MOST 1048576: true; the input reads as it did. -/
def intabulateCountsUptoRow : OpenClaim := { program := "ytpbahncblggodaagreat", sum := "7219d11c44d37d8be7184fa49e7664353109b5882be036f044d8f1c29fac21d3", func := "theorbo/theorbolaw08.IntabulateCounts", spec := "intabulateCounts", unfollowed := true, recurses := true, apart := false, narrowed := true }
def IntabulateCountsUptoSaid : Prop := intabulateCountsUptoRow.holds Tryz.pinned (OpenSpec.upto intabulateCountsSpec)

/-- 'theorbolaw08.IntabulatePlays', WHERE WHAT IT READS IS OF BULK AT MOST 1048576: true; the input reads as it did. -/
def intabulatePlaysUptoRow : OpenClaim := { program := "ytpbahncblggodaagreat", sum := "7219d11c44d37d8be7184fa49e7664353109b5882be036f044d8f1c29fac21d3", func := "theorbo/theorbolaw08.IntabulatePlays", spec := "intabulatePlays", unfollowed := true, recurses := true, apart := false, narrowed := true }
def IntabulatePlaysUptoSaid : Prop := intabulatePlaysUptoRow.holds Tryz.pinned (OpenSpec.upto intabulatePlaysSpec)

end Rows
end Go.Proofs.YtpbahncblggodaaGreat
