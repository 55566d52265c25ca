/-
  ConsortNil, carried out by the kernel for all three numbers.
  Own work. No Go text.
-/
import Derived.Test.YtpljabnngpnieaaWk
set_option linter.all false
namespace Go.Proofs.Ytpljabnngpnieaa
open Go Go.Am Go.ChangeShapes Go.WideShapes Go.ChangeAt Go.RowKit Go.Deep
set_option maxRecDepth 100000

/-- The example's contract beside the others. -/
def oraW : Ora := fun g l s => bif Nat.beq g 10 then (match l with
  | [] => some (.bool true, s)
  | _ => none) else ora72 g l s

theorem oraW_ok : OraOk Try.prog oraW := by
  intro g l s v s' h
  unfold oraW at h
  cases hg : Nat.beq g 10 with
  | false => rw [hg] at h; exact ora72_ok h
  | true =>
    have := Nat.eq_of_beq_eq_true hg
    subst this
    rw [hg] at h
    simp only [cond_true] at h
    split at h
    · cases h
      exact ⟨by kernel_rfl, works_ok s⟩
    · cases h

theorem nil_run (a b c : Int) : okTrue (ifunc Try.prog (icall Try.prog oraW 300 20) 300 8 [.i a, .i b, .i c] ⟨[], 0⟩) = true := by kernel_rfl

theorem nil_calls (a b c : Int) : ACalls Try.prog 8 [.i a, .i b, .i c] ⟨[], 0⟩ fun x _ => x = .bool true := acalls_true oraW_ok 300 20 (nil_run a b c)

theorem own : ownKnob Try.prog.godebug = none := by kernel_rfl
theorem kids : Kids Try.prog (· < Try.prog.types.size) := kids_rows (by kernel_rfl) (by kernel_rfl)
theorem full : ∀ t e, t < Try.prog.types.size → Try.prog.underlying t = some (.slice e) → 0 < Try.prog.cellsOf e := slices_full_of Try.prog (by kernel_rfl)
theorem rd_int : Rdg Bk Try.prog 3 (AV.int .i64) 1 (okI .i64) (fun _ => 1) := Rdg.int .i64 (by kernel_rfl) (by kernel_rfl)
end Go.Proofs.Ytpljabnngpnieaa
