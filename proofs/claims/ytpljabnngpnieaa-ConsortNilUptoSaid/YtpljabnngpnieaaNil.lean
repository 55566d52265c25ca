/-
  'theorbolaw09.ConsortNil' returns true for every input and leaves its arguments as they were (where what it reads is of bulk at most 1048576; nothing else is asked).
-/
import Derived.Test.YtpljabnngpnieaaWk
namespace Go.Proofs.Ytpljabnngpnieaa
open Go Go.Am Go.ChangeShapes Go.WideShapes Go.ChangeAt Go.RowKit Go.Deep
set_option maxRecDepth 100000

/-- The example's contract beside the others. -/
def oraW : Ora := fun g l s => bif Nat.beq g 10 then (match l with
  | [] => some (.bool true, s)
  | _ => none) else ora72 g l s

theorem oraW_ok : OraOk Try.prog oraW := by
  intro g l s v s' h
  unfold oraW at h
  cases hg : Nat.beq g 10 with
  | false => rw [hg] at h; exact ora72_ok h
  | true =>
    have := Nat.eq_of_beq_eq_true hg
    subst this
    rw [hg] at h
    simp only [cond_true] at h
    split at h
    · cases h
      exact ⟨by kernel_rfl, works_ok s⟩
    · cases h

theorem nil_run (a b c : Int) : okTrue (ifunc Try.prog (icall Try.prog oraW 300 20) 300 8 [.i a, .i b, .i c] ⟨[], 0⟩) = true := by kernel_rfl

theorem nil_calls (a b c : Int) : ACalls Try.prog 8 [.i a, .i b, .i c] ⟨[], 0⟩ fun x _ => x = .bool true := acalls_true oraW_ok 300 20 (nil_run a b c)

theorem own : ownKnob Try.prog.godebug = none := by kernel_rfl
theorem kids : Kids Try.prog (· < Try.prog.types.size) := kids_rows (by kernel_rfl) (by kernel_rfl)
theorem full : ∀ t e, t < Try.prog.types.size → Try.prog.underlying t = some (.slice e) → 0 < Try.prog.cellsOf e := slices_full_of Try.prog (by kernel_rfl)
theorem rd_int : Rdg Bk Try.prog 3 (AV.int .i64) 1 (okI .i64) (fun _ => 1) := Rdg.int .i64 (by kernel_rfl) (by kernel_rfl)

theorem nil_contract (H : Type) (enc : TypeId × Value → H) (W : World) (base : Nat) (args : Array Value) (ds gs : List (DataW H)) (before : List MemPlace)
    (hval : ∀ (j : Nat) t v, Try.f8.params[j]? = some t → args[j]? = some v → Value.okWide Try.prog W .any base t v)
    (hW : DataW.Whole enc Try.prog Try.f8.params.toList Rows.consortNilSpec.vars false W args.toList ds gs before) :
    Calls Try.prog 8 args W fun e W' => ∃ v, e = .returned v ∧ Rows.consortNilSpec.post enc Try.prog Try.f8 false true false false W args v W' := by
  have hW' := hW
  obtain ⟨p, q, hA0, hV, hbe, hfz, hnd⟩ := hW
  have hpar : Try.f8.params.toList = [3, 3, 3] := by kernel_rfl
  rw [hpar] at hA0
  obtain ⟨v0, vs0, d0, ds0, p0, q0, ha0, rfl, hp0, h0, r0⟩ := trodAll_cons hA0
  obtain ⟨v1, vs1, d1, ds1, p1, q1, ha1, rfl, hp1, h1, r1⟩ := trodAll_cons r0
  obtain ⟨v2, vs2, d2, ds2, p2, q2, ha2, rfl, hp2, h2, r2⟩ := trodAll_cons r1
  obtain ⟨rfl, rfl, hp3⟩ := trodAll_nil r2
  subst ha2; subst ha1
  obtain rfl : args = #[v0, v1, v2] := by cases args; simp_all
  have hpa : Try.f8.params = #[3, 3, 3] := by kernel_rfl
  rw [hpa] at hval
  obtain ⟨a, _, _, e0⟩ := rd_int.arg (hval 0 3 v0 rfl rfl) h0
  obtain ⟨b, _, _, e1⟩ := rd_int.arg (hval 1 3 v1 rfl rfl) h1
  obtain ⟨c, _, _, e2⟩ := rd_int.arg (hval 2 3 v2 rfl rfl) h2
  refine (calls_kept (nil_calls a b c) (fun x s h => h) (VL.cons e0 (VL.cons e1 (VL.cons e2 VL.nil)))).mono fun e W' ⟨he, hk⟩ => ⟨_, he, ?_⟩
  exact law_post 4 kids full (by rw [hpar]; intro t ht; have : t = 3 := by simpa using ht
                                 subst this; exact of_decide_eq_true (by kernel_rfl)) rfl (by kernel_rfl) (by kernel_rfl) hW' (fun ds' e => by subst e; rfl) hk

theorem nil_lifted (os : Os) (started : os.Started) (H : Type) (enc : TypeId × Value → H) (F : Stop.Interp) :
    ReturnsInHanded {} Try.checked os 8 .any ((Rows.OpenSpec.upto Rows.consortNilSpec).pre6 enc Try.prog Try.f8 Rows.consortNilUptoRow.domain false) (((Rows.OpenSpec.upto Rows.consortNilSpec).at F).post enc Try.prog Try.f8 false true false false) := by
  refine returnsInHanded_of_cond (C := Try.checked) (s := Rows.OpenSpec.upto Rows.consortNilSpec) (k := Rows.uptoSmall) rfl own started (by kernel_rfl) Try.func8
    (OpenSpec.witness (enc := enc) (C := Try.checked) (s := Rows.OpenSpec.upto Rows.consortNilSpec) (k := Rows.uptoSmall) rfl false ⟨#[], #[.int .i64 0, .int .i64 0, .int .i64 0], []⟩ 8 (by kernel_rfl) (by kernel_rfl) (by kernel_rfl)
      (x := ([.lit (.int .i64 0), .lit (.int .i64 0), .lit (.int .i64 0)], [], [])) (by kernel_rfl) rfl (by kernel_rfl)) ?_
  intro W base args ds gs before hval hW _ hk _
  exact nil_contract H enc W base args ds gs before hval hW

theorem nil_over : Rows.consortNilUptoRow.holds Try.pinned (Rows.OpenSpec.upto Rows.consortNilSpec) :=
  OpenClaim.holds_of_cond 8 Try.f8 rfl rfl rfl rfl rfl rfl rfl ⟨rfl, rfl, rfl, rfl, rfl⟩ rfl rfl rfl rfl rfl (by kernel_rfl) Try.func8 (by kernel_rfl)
    (of_decide_eq_true (by kernel_rfl)) (by unfold Func.isWrapper; first | (rw [if_pos (by decide +kernel)]; kernel_rfl) | (rw [if_neg (by decide +kernel)]; exact ⟨rfl, rfl⟩))
    (fun os started H enc _ F => nil_lifted os started H enc F)

theorem consortNil_holds : Rows.ConsortNilUptoSaid := nil_over
end Go.Proofs.Ytpljabnngpnieaa
