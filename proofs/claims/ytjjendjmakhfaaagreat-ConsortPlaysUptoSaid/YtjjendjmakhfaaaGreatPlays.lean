/-
 'theorbolaw09.ConsortPlays' returns true for every input and leaves its arguments as they were: a player does,call by call,what the reference's player does: its frames,its times,its clock,what sounds,and its takes. (Where what it reads is of bulk at most 1048576; nothing else is asked.)
-/
import Derived.Test.YtjjendjmakhfaaaGreatRdC
import Derived.Test.YtjjendjmakhfaaaGreatQf
import Derived.Test.YtjjendjmakhfaaaGreatPlaysF
namespace Go.Proofs.YtjjendjmakhfaaaGreat
open Go Go.Am Go.ChangeShapes Go.WideShapes Go.ChangeAt Go.RowKit Go.Deep
set_option maxRecDepth 100000
set_option linter.all false
theorem consortPlays_calls (a0 : GConsort) (a1 : List GLaw09Call) (s1 : Small a1) (s0 : SizeC a0.pieces) : ACalls Tryz.prog 3 [E_GConsort a0,SL E_GLaw09Call a1] ⟨[],0⟩ fun x _ => x = .bool true :=
 (f3_t a0 a1 true (f3_eq a0 a1 s1 s0) ⟨[],0⟩).mono fun x s h => h.1
theorem consortPlays_contract (H : Type) (enc : TypeId × Value → H) (W : World) (base : Nat) (args : Array Value) (ds gs : List (DataW H)) (before : List MemPlace)
  (hval : ∀ (j : Nat) t v,Tryz.f3.params[j]? = some t → args[j]? = some v → Value.okWide Tryz.prog W .any base t v)
  (hW : DataW.Whole enc Tryz.prog Tryz.f3.params.toList Rows.consortPlaysSpec.vars false W args.toList ds gs before) (hk : Rows.uptoSmall H (ds ++ gs) = true) :
  Calls Tryz.prog 3 args W fun e W' => ∃ v,e = .returned v ∧ Rows.consortPlaysSpec.post enc Tryz.prog Tryz.f3 false true false false W args v W' := by
 have hW' := hW
 obtain ⟨p,q,hA0,hV,hbe,hfz,hnd⟩ := hW
 have hpar : Tryz.f3.params.toList = [24,25] := by kernel_rfl
 rw [hpar] at hA0
 obtain ⟨v0,vs0,d0,ds0,p0,q0,ha0,rfl,hp0,h0,r0⟩ := trodAll_cons hA0
 obtain ⟨v1,vs1,d1,ds1,p1,q1,ha1,rfl,hp1,h1,r1⟩ := trodAll_cons r0
 obtain ⟨rfl,rfl,hp2⟩ := trodAll_nil r1
 subst ha1
 obtain rfl : args = #[v0,v1] := by cases args; simp_all
 have hpa : Tryz.f3.params = #[24,25] := by kernel_rfl
 rw [hpa] at hval
 obtain ⟨a0,o0,m0,e0⟩ := rd_cons.arg (hval 0 24 v0 rfl rfl) h0
 obtain ⟨a1,o1,m1,e1⟩ := rd_calls.arg (hval 1 25 v1 rfl rfl) h1
 have hbk : Rows.uptoBulkAll [d0,d1] ≤ 1048576 := by
  have := of_decide_eq_true hk
  have h2 : ∀ (x y : List (DataW H)),Rows.uptoBulkAll x ≤ Rows.uptoBulkAll (x ++ y) := by
   intro x y
   induction x with
   | nil => simp [Rows.uptoBulkAll]
   | cons d x ih => simp only [List.cons_append,Rows.uptoBulkAll]; omega
  exact Nat.le_trans (h2 _ gs) this
 simp only [Rows.uptoBulkAll] at hbk
 have s1 : Small a1 := by
  have := lm_len rd_call.mpos a1
  simp only [Small]; omega
 have s0 : SizeC a0.pieces := size_ofC (by omega)
 refine (calls_kept (consortPlays_calls a0 a1 s1 s0) (fun x s h => h) (VL.cons e0 (VL.cons e1 VL.nil))).mono fun e W' ⟨he,hk⟩ => ⟨_,he,?_⟩
 exact law_post 4 kids full (by rw [hpar]; intro t ht; simp only [List.mem_cons,List.not_mem_nil,or_false] at ht; rcases ht with rfl | rfl <;> exact of_decide_eq_true (by kernel_rfl)) rfl (by kernel_rfl) (by kernel_rfl) hW' (fun ds' e => by subst e; rfl) hk
theorem consortPlays_lifted (os : Os) (started : os.Started) (H : Type) (enc : TypeId × Value → H) (F : Stop.Interp) :
  ReturnsInHanded {} Tryz.checked os 3 .any ((Rows.OpenSpec.upto Rows.consortPlaysSpec).pre6 enc Tryz.prog Tryz.f3 Rows.consortPlaysUptoRow.domain false) (((Rows.OpenSpec.upto Rows.consortPlaysSpec).at F).post enc Tryz.prog Tryz.f3 false true false false) := by
 refine returnsInHanded_of_cond (C := Tryz.checked) (s := Rows.OpenSpec.upto Rows.consortPlaysSpec) (k := Rows.uptoSmall) rfl own started (by kernel_rfl) Tryz.func3
  (OpenSpec.witness (enc := enc) (C := Tryz.checked) (s := Rows.OpenSpec.upto Rows.consortPlaysSpec) (k := Rows.uptoSmall) rfl false ⟨#[],#[.agg #[.slice none 0 0],.slice none 0 0],[]⟩ 8 (by kernel_rfl) (by kernel_rfl) (by kernel_rfl)
   (x := ([.agg [.nil],.nil],[],[])) (by kernel_rfl) rfl (by kernel_rfl)) ?_
 intro W base args ds gs before hval hW _ hk _
 exact consortPlays_contract H enc W base args ds gs before hval hW hk
theorem consortPlays_holds : Rows.ConsortPlaysUptoSaid :=
 OpenClaim.holds_of_cond 3 Tryz.f3 rfl rfl rfl rfl rfl rfl rfl ⟨rfl,rfl,rfl,rfl,rfl⟩ rfl rfl rfl rfl rfl (by kernel_rfl) Tryz.func3 consortPlays_facts
  (of_decide_eq_true (by kernel_rfl)) (by unfold Func.isWrapper; first | (rw [if_pos (by decide +kernel)]; kernel_rfl) | (rw [if_neg (by decide +kernel)]; exact ⟨rfl,rfl⟩))
  (fun os started H enc _ F => consortPlays_lifted os started H enc F)
end Go.Proofs.YtjjendjmakhfaaaGreat
