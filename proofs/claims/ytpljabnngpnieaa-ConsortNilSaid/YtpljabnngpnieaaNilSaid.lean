/-
  'theorbolaw09.ConsortNil' returns true for every input and leaves its arguments as they were: all methods of a nil player return ErrNil, or zero values. (No condition.)
-/
import Derived.Test.YtpljabnngpnieaaNil
import Derived.Test.YtpljabnngpnieaaNilSaidF
namespace Go.Proofs.Ytpljabnngpnieaa
open Go Go.Am Go.ChangeShapes Go.WideShapes Go.ChangeAt Go.RowKit Go.Deep
set_option maxRecDepth 100000
set_option linter.all false

theorem consortNil_calls (a0 : Int) (a1 : Int) (a2 : Int)  : ACalls Try.prog 8 [.i a0, .i a1, .i a2] ⟨[], 0⟩ fun x _ => x = .bool true :=
  nil_calls a0 a1 a2

theorem consortNil_contract (H : Type) (enc : TypeId × Value → H) (W : World) (base : Nat) (args : Array Value) (ds gs : List (DataW H)) (before : List MemPlace)
    (hval : ∀ (j : Nat) t v, Try.f8.params[j]? = some t → args[j]? = some v → Value.okWide Try.prog W .any base t v)
    (hW : DataW.Whole enc Try.prog Try.f8.params.toList Rows.consortNilSpec.vars false W args.toList ds gs before) :
    Calls Try.prog 8 args W fun e W' => ∃ v, e = .returned v ∧ Rows.consortNilSpec.post enc Try.prog Try.f8 false true false false W args v W' := by
  have hW' := hW
  obtain ⟨p, q, hA0, hV, hbe, hfz, hnd⟩ := hW
  have hpar : Try.f8.params.toList = [3, 3, 3] := by kernel_rfl
  rw [hpar] at hA0
  obtain ⟨v0, vs0, d0, ds0, p0, q0, ha0, rfl, hp0, h0, r0⟩ := trodAll_cons hA0
  obtain ⟨v1, vs1, d1, ds1, p1, q1, ha1, rfl, hp1, h1, r1⟩ := trodAll_cons r0
  obtain ⟨v2, vs2, d2, ds2, p2, q2, ha2, rfl, hp2, h2, r2⟩ := trodAll_cons r1
  obtain ⟨rfl, rfl, hp3⟩ := trodAll_nil r2
  subst ha2
  subst ha1
  obtain rfl : args = #[v0, v1, v2] := by cases args; simp_all
  have hpa : Try.f8.params = #[3, 3, 3] := by kernel_rfl
  rw [hpa] at hval
  obtain ⟨a0, o0, m0, e0⟩ := rd_int.arg (hval 0 3 v0 rfl rfl) h0
  obtain ⟨a1, o1, m1, e1⟩ := rd_int.arg (hval 1 3 v1 rfl rfl) h1
  obtain ⟨a2, o2, m2, e2⟩ := rd_int.arg (hval 2 3 v2 rfl rfl) h2
  refine (calls_kept (consortNil_calls a0 a1 a2 ) (fun x s h => h) (VL.cons e0 (VL.cons e1 (VL.cons e2 VL.nil)))).mono fun e W' ⟨he, hk⟩ => ⟨_, he, ?_⟩
  exact law_post 4 kids full (by rw [hpar]; intro t ht; simp only [List.mem_cons, List.not_mem_nil, or_false] at ht; rcases ht with rfl | rfl | rfl <;> exact of_decide_eq_true (by kernel_rfl)) rfl (by kernel_rfl) (by kernel_rfl) hW' (fun ds' e => by subst e; rfl) hk

theorem consortNil_lifted (os : Os) (started : os.Started) (H : Type) (enc : TypeId × Value → H) :
    ReturnsInHanded {} Try.checked os 8 .any (Rows.consortNilSpec.pre6 enc Try.prog Try.f8 Rows.consortNilRow.domain false) (Rows.consortNilSpec.post enc Try.prog Try.f8 false true false false) := by
  refine returnsInHanded_of_change (C := Try.checked) own started (by kernel_rfl) Try.func8
    (ChangeSpec.witness6 (enc := enc) (C := Try.checked) false ⟨#[], #[.int .i64 0, .int .i64 0, .int .i64 0], []⟩ 8 (by kernel_rfl) (by kernel_rfl) (by kernel_rfl) (by kernel_rfl)) ?_
  intro W base args ds gs before hval hW _ _
  exact consortNil_contract H enc W base args ds gs before hval hW

theorem consortNil_holds : Rows.ConsortNilSaid :=
  OpenClaim.holds_of_wide 8 Try.f8 rfl rfl rfl rfl rfl rfl rfl ⟨rfl, rfl, rfl, rfl, rfl⟩ rfl rfl rfl rfl rfl (by kernel_rfl) Try.func8 consortNil_facts
    (of_decide_eq_true (by kernel_rfl)) (by unfold Func.isWrapper; first | (rw [if_pos (by decide +kernel)]; kernel_rfl) | (rw [if_neg (by decide +kernel)]; exact ⟨rfl, rfl⟩))
    (fun os started H enc _ => consortNil_lifted os started H enc)
end Go.Proofs.Ytpljabnngpnieaa
