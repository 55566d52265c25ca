/-
  'theorbolaw09.ConsortSilent' returns true for every input and leaves its arguments as they were: a player with one silent desk plays the notes of the other desks only, and ends at the same time. (Where what it reads is of bulk at most 1048576; nothing else is asked.)
-/
import Derived.Test.YtpljabnngpnieaaRdA
import Derived.Test.YtpljabnngpnieaaP6
import Derived.Test.YtpljabnngpnieaaSilentF
namespace Go.Proofs.Ytpljabnngpnieaa
open Go Go.Am Go.ChangeShapes Go.WideShapes Go.ChangeAt Go.RowKit Go.Deep
set_option maxRecDepth 100000
set_option linter.all false
theorem consortSilent_calls (a0 : GConsort) (a1 : Int) (s0 : SizeC a0.pieces) : ACalls Try.prog 6 [E_GConsort a0, .i a1] ⟨[], 0⟩ fun x _ => x = .bool true :=
  (f6_ok a0 a1 true (f6_eq a0 a1 s0) ⟨[], 0⟩).mono fun x s h => h.1
theorem consortSilent_contract (H : Type) (enc : TypeId × Value → H) (W : World) (base : Nat) (args : Array Value) (ds gs : List (DataW H)) (before : List MemPlace)
    (hval : ∀ (j : Nat) t v, Try.f6.params[j]? = some t → args[j]? = some v → Value.okWide Try.prog W .any base t v)
    (hW : DataW.Whole enc Try.prog Try.f6.params.toList Rows.consortSilentSpec.vars false W args.toList ds gs before) (hk : Rows.uptoSmall H (ds ++ gs) = true) :
    Calls Try.prog 6 args W fun e W' => ∃ v, e = .returned v ∧ Rows.consortSilentSpec.post enc Try.prog Try.f6 false true false false W args v W' := by
  have hW' := hW
  obtain ⟨p, q, hA0, hV, hbe, hfz, hnd⟩ := hW
  have hpar : Try.f6.params.toList = [24, 3] := by kernel_rfl
  rw [hpar] at hA0
  obtain ⟨v0, vs0, d0, ds0, p0, q0, ha0, rfl, hp0, h0, r0⟩ := trodAll_cons hA0
  obtain ⟨v1, vs1, d1, ds1, p1, q1, ha1, rfl, hp1, h1, r1⟩ := trodAll_cons r0
  obtain ⟨rfl, rfl, hp2⟩ := trodAll_nil r1
  subst ha1
  obtain rfl : args = #[v0, v1] := by cases args; simp_all
  have hpa : Try.f6.params = #[24, 3] := by kernel_rfl
  rw [hpa] at hval
  obtain ⟨a0, o0, m0, e0⟩ := rd_cons.arg (hval 0 24 v0 rfl rfl) h0
  obtain ⟨a1, o1, m1, e1⟩ := rd_int.arg (hval 1 3 v1 rfl rfl) h1
  have hbk : Rows.uptoBulkAll [d0, d1] ≤ 1048576 := by
    have := of_decide_eq_true hk
    have h2 : ∀ (x y : List (DataW H)), Rows.uptoBulkAll x ≤ Rows.uptoBulkAll (x ++ y) := by
      intro x y
      induction x with
      | nil => simp [Rows.uptoBulkAll]
      | cons d x ih => simp only [List.cons_append, Rows.uptoBulkAll]; omega
    exact Nat.le_trans (h2 _ gs) this
  simp only [Rows.uptoBulkAll] at hbk
  have s0 : SizeC a0.pieces := size_of (by omega)
  refine (calls_kept (consortSilent_calls a0 a1 s0) (fun x s h => h) (VL.cons e0 (VL.cons e1 VL.nil))).mono fun e W' ⟨he, hk⟩ => ⟨_, he, ?_⟩
  exact law_post 4 kids full (by rw [hpar]; intro t ht; simp only [List.mem_cons, List.not_mem_nil, or_false] at ht; rcases ht with rfl | rfl <;> exact of_decide_eq_true (by kernel_rfl)) rfl (by kernel_rfl) (by kernel_rfl) hW' (fun ds' e => by subst e; rfl) hk
theorem consortSilent_lifted (os : Os) (started : os.Started) (H : Type) (enc : TypeId × Value → H) (F : Stop.Interp) :
    ReturnsInHanded {} Try.checked os 6 .any ((Rows.OpenSpec.upto Rows.consortSilentSpec).pre6 enc Try.prog Try.f6 Rows.consortSilentUptoRow.domain false) (((Rows.OpenSpec.upto Rows.consortSilentSpec).at F).post enc Try.prog Try.f6 false true false false) := by
  refine returnsInHanded_of_cond (C := Try.checked) (s := Rows.OpenSpec.upto Rows.consortSilentSpec) (k := Rows.uptoSmall) rfl own started (by kernel_rfl) Try.func6
    (OpenSpec.witness (enc := enc) (C := Try.checked) (s := Rows.OpenSpec.upto Rows.consortSilentSpec) (k := Rows.uptoSmall) rfl false ⟨#[], #[.agg #[.slice none 0 0], .int .i64 0], []⟩ 8 (by kernel_rfl) (by kernel_rfl) (by kernel_rfl)
      (x := ([.agg [.nil], .lit (.int .i64 0)], [], [])) (by kernel_rfl) rfl (by kernel_rfl)) ?_
  intro W base args ds gs before hval hW _ hk _
  exact consortSilent_contract H enc W base args ds gs before hval hW hk
theorem consortSilent_holds : Rows.ConsortSilentUptoSaid :=
  OpenClaim.holds_of_cond 6 Try.f6 rfl rfl rfl rfl rfl rfl rfl ⟨rfl, rfl, rfl, rfl, rfl⟩ rfl rfl rfl rfl rfl (by kernel_rfl) Try.func6 consortSilent_facts
    (of_decide_eq_true (by kernel_rfl)) (by unfold Func.isWrapper; first | (rw [if_pos (by decide +kernel)]; kernel_rfl) | (rw [if_neg (by decide +kernel)]; exact ⟨rfl, rfl⟩))
    (fun os started H enc _ F => consortSilent_lifted os started H enc F)
end Go.Proofs.Ytpljabnngpnieaa
