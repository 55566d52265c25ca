/-
  'theorbolaw09.ConsortRepeats' returns true for every input and leaves its arguments as they were: the repeats of a part are counted by the clock,and a player that repeats the whole plays every note as often. (Where what it reads is of bulk at most 1048576; nothing else is asked.)
-/
import Derived.Test.YtpljabnngpnieaaRdP
import Derived.Test.YtpljabnngpnieaaP4
import Derived.Test.YtpljabnngpnieaaRepeatsF
namespace Go.Proofs.Ytpljabnngpnieaa
open Go Go.Am Go.ChangeShapes Go.WideShapes Go.ChangeAt Go.RowKit Go.Deep
set_option maxRecDepth 100000
set_option linter.all false
theorem consortRepeats_calls (a0 : GConsort) (a1 : (Int × Int)) (a2 : Int) (s0 : SizeC a0.pieces) : ACalls Try.prog 4 [E_GConsort a0,E_Part a1,.i a2] ⟨[],0⟩ fun x _ => x = .bool true :=
  (f4_ok a0 a1.1 a1.2 a2 true (f4_eq a0 a1.1 a1.2 a2 s0) ⟨[],0⟩).mono fun x s h => h.1
theorem consortRepeats_contract (H : Type) (enc : TypeId × Value → H) (W : World) (base : Nat) (args : Array Value) (ds gs : List (DataW H)) (before : List MemPlace)
    (hval : ∀ (j : Nat) t v,Try.f4.params[j]? = some t → args[j]? = some v → Value.okWide Try.prog W .any base t v)
    (hW : DataW.Whole enc Try.prog Try.f4.params.toList Rows.consortRepeatsSpec.vars false W args.toList ds gs before) (hk : Rows.uptoSmall H (ds ++ gs) = true) :
    Calls Try.prog 4 args W fun e W' => ∃ v,e = .returned v ∧ Rows.consortRepeatsSpec.post enc Try.prog Try.f4 false true false false W args v W' := by
  have hW' := hW
  obtain ⟨p,q,hA0,hV,hbe,hfz,hnd⟩ := hW
  have hpar : Try.f4.params.toList = [24,44,3] := by kernel_rfl
  rw [hpar] at hA0
  obtain ⟨v0,vs0,d0,ds0,p0,q0,ha0,rfl,hp0,h0,r0⟩ := trodAll_cons hA0
  obtain ⟨v1,vs1,d1,ds1,p1,q1,ha1,rfl,hp1,h1,r1⟩ := trodAll_cons r0
  obtain ⟨v2,vs2,d2,ds2,p2,q2,ha2,rfl,hp2,h2,r2⟩ := trodAll_cons r1
  obtain ⟨rfl,rfl,hp3⟩ := trodAll_nil r2
  subst ha2
  subst ha1
  obtain rfl : args = #[v0,v1,v2] := by cases args; simp_all
  have hpa : Try.f4.params = #[24,44,3] := by kernel_rfl
  rw [hpa] at hval
  obtain ⟨a0,o0,m0,e0⟩ := rd_cons.arg (hval 0 24 v0 rfl rfl) h0
  obtain ⟨a1,o1,m1,e1⟩ := rd_part.arg (hval 1 44 v1 rfl rfl) h1
  obtain ⟨a2,o2,m2,e2⟩ := rd_int.arg (hval 2 3 v2 rfl rfl) h2
  have hbk : Rows.uptoBulkAll [d0,d1,d2] ≤ 1048576 := by
    have := of_decide_eq_true hk
    have h2 : ∀ (x y : List (DataW H)),Rows.uptoBulkAll x ≤ Rows.uptoBulkAll (x ++ y) := by
      intro x y
      induction x with
      | nil => simp [Rows.uptoBulkAll]
      | cons d x ih => simp only [List.cons_append,Rows.uptoBulkAll]; omega
    exact Nat.le_trans (h2 _ gs) this
  simp only [Rows.uptoBulkAll] at hbk
  have s0 : SizeC a0.pieces := size_of (by omega)
  refine (calls_kept (consortRepeats_calls a0 a1 a2 s0) (fun x s h => h) (VL.cons e0 (VL.cons e1 (VL.cons e2 VL.nil)))).mono fun e W' ⟨he,hk⟩ => ⟨_,he,?_⟩
  exact law_post 4 kids full (by rw [hpar]; intro t ht; simp only [List.mem_cons,List.not_mem_nil,or_false] at ht; rcases ht with rfl | rfl | rfl <;> exact of_decide_eq_true (by kernel_rfl)) rfl (by kernel_rfl) (by kernel_rfl) hW' (fun ds' e => by subst e; rfl) hk
theorem consortRepeats_lifted (os : Os) (started : os.Started) (H : Type) (enc : TypeId × Value → H) (F : Stop.Interp) :
    ReturnsInHanded {} Try.checked os 4 .any ((Rows.OpenSpec.upto Rows.consortRepeatsSpec).pre6 enc Try.prog Try.f4 Rows.consortRepeatsUptoRow.domain false) (((Rows.OpenSpec.upto Rows.consortRepeatsSpec).at F).post enc Try.prog Try.f4 false true false false) := by
  refine returnsInHanded_of_cond (C := Try.checked) (s := Rows.OpenSpec.upto Rows.consortRepeatsSpec) (k := Rows.uptoSmall) rfl own started (by kernel_rfl) Try.func4
    (OpenSpec.witness (enc := enc) (C := Try.checked) (s := Rows.OpenSpec.upto Rows.consortRepeatsSpec) (k := Rows.uptoSmall) rfl false ⟨#[],#[.agg #[.slice none 0 0],.agg #[.int .i64 0,.int .i64 0],.int .i64 0],[]⟩ 8 (by kernel_rfl) (by kernel_rfl) (by kernel_rfl)
      (x := ([.agg [.nil],.agg [.lit (.int .i64 0),.lit (.int .i64 0)],.lit (.int .i64 0)],[],[])) (by kernel_rfl) rfl (by kernel_rfl)) ?_
  intro W base args ds gs before hval hW _ hk _
  exact consortRepeats_contract H enc W base args ds gs before hval hW hk
theorem consortRepeats_holds : Rows.ConsortRepeatsUptoSaid :=
  OpenClaim.holds_of_cond 4 Try.f4 rfl rfl rfl rfl rfl rfl rfl ⟨rfl,rfl,rfl,rfl,rfl⟩ rfl rfl rfl rfl rfl (by kernel_rfl) Try.func4 consortRepeats_facts
    (of_decide_eq_true (by kernel_rfl)) (by unfold Func.isWrapper; first | (rw [if_pos (by decide +kernel)]; kernel_rfl) | (rw [if_neg (by decide +kernel)]; exact ⟨rfl,rfl⟩))
    (fun os started H enc _ F => consortRepeats_lifted os started H enc F)
end Go.Proofs.Ytpljabnngpnieaa
