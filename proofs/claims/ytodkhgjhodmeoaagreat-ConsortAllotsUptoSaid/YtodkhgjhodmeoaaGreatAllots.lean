/-
 'theorbolaw09.ConsortAllots' returns true for every input and leaves its arguments as they were: Allot gives what the reference gives,which tries every list: the least tones without a place,and the first list that reaches it. (Where what it reads is of bulk at most 1048576; nothing else is asked.)
-/
import Derived.Test.YtodkhgjhodmeoaaGreatRdE
import Derived.Test.YtodkhgjhodmeoaaGreatAm4
import Derived.Test.YtodkhgjhodmeoaaGreatAllotsF
namespace Go.Proofs.YtodkhgjhodmeoaaGreat
open Go Go.Am Go.ChangeShapes Go.WideShapes Go.ChangeAt Go.RowKit Go.Deep
set_option maxRecDepth 100000
set_option linter.all false
theorem consortAllots_calls (a0 : List (List GTone)) (a1 : List GInstrument) (a2 : Int) (s0 : Small a0) : ACalls Tryz.prog 8 [SL (SL E_GTone) a0,SL E_GInstrument a1,.i a2] ⟨[],0⟩ fun x _ => x = .bool true :=
 (f8_ok a0 a1 a2 true (f8_eq a0 a1 a2 s0) ⟨[],0⟩).mono fun x s h => h.1
theorem consortAllots_contract (H : Type) (enc : TypeId × Value → H) (W : World) (base : Nat) (args : Array Value) (ds gs : List (DataW H)) (before : List MemPlace)
  (hval : ∀ (j : Nat) t v,Tryz.f8.params[j]? = some t → args[j]? = some v → Value.okWide Tryz.prog W .any base t v)
  (hW : DataW.Whole enc Tryz.prog Tryz.f8.params.toList Rows.consortAllotsSpec.vars false W args.toList ds gs before) (hk : Rows.uptoSmall H (ds ++ gs) = true) :
  Calls Tryz.prog 8 args W fun e W' => ∃ v,e = .returned v ∧ Rows.consortAllotsSpec.post enc Tryz.prog Tryz.f8 false true false false W args v W' := by
 have hW' := hW
 obtain ⟨p,q,hA0,hV,hbe,hfz,hnd⟩ := hW
 have hpar : Tryz.f8.params.toList = [81,82,3] := by kernel_rfl
 rw [hpar] at hA0
 obtain ⟨v0,vs0,d0,ds0,p0,q0,ha0,rfl,hp0,h0,r0⟩ := trodAll_cons hA0
 obtain ⟨v1,vs1,d1,ds1,p1,q1,ha1,rfl,hp1,h1,r1⟩ := trodAll_cons r0
 obtain ⟨v2,vs2,d2,ds2,p2,q2,ha2,rfl,hp2,h2,r2⟩ := trodAll_cons r1
 obtain ⟨rfl,rfl,hp3⟩ := trodAll_nil r2
 subst ha2
 subst ha1
 obtain rfl : args = #[v0,v1,v2] := by cases args; simp_all
 have hpa : Tryz.f8.params = #[81,82,3] := by kernel_rfl
 rw [hpa] at hval
 obtain ⟨a0,o0,m0,e0⟩ := rd_parts.arg (hval 0 81 v0 rfl rfl) h0
 obtain ⟨a1,o1,m1,e1⟩ := rd_insts.arg (hval 1 82 v1 rfl rfl) h1
 obtain ⟨a2,o2,m2,e2⟩ := rd_int.arg (hval 2 3 v2 rfl rfl) h2
 have hbk : Rows.uptoBulkAll [d0,d1,d2] ≤ 1048576 := by
  have := of_decide_eq_true hk
  have h2 : ∀ (x y : List (DataW H)),Rows.uptoBulkAll x ≤ Rows.uptoBulkAll (x ++ y) := by
   intro x y
   induction x with
   | nil => simp [Rows.uptoBulkAll]
   | cons d x ih => simp only [List.cons_append,Rows.uptoBulkAll]; omega
  exact Nat.le_trans (h2 _ gs) this
 simp only [Rows.uptoBulkAll] at hbk
 have s0 : Small a0 := by
  have := lm_len rd_tones.mpos a0
  simp only [Small]; omega
 refine (calls_kept (consortAllots_calls a0 a1 a2 s0) (fun x s h => h) (VL.cons e0 (VL.cons e1 (VL.cons e2 VL.nil)))).mono fun e W' ⟨he,hk⟩ => ⟨_,he,?_⟩
 exact law_post 4 kids full (by rw [hpar]; intro t ht; simp only [List.mem_cons,List.not_mem_nil,or_false] at ht; rcases ht with rfl | rfl | rfl <;> exact of_decide_eq_true (by kernel_rfl)) rfl (by kernel_rfl) (by kernel_rfl) hW' (fun ds' e => by subst e; rfl) hk
theorem consortAllots_lifted (os : Os) (started : os.Started) (H : Type) (enc : TypeId × Value → H) (F : Stop.Interp) :
  ReturnsInHanded {} Tryz.checked os 8 .any ((Rows.OpenSpec.upto Rows.consortAllotsSpec).pre6 enc Tryz.prog Tryz.f8 Rows.consortAllotsUptoRow.domain false) (((Rows.OpenSpec.upto Rows.consortAllotsSpec).at F).post enc Tryz.prog Tryz.f8 false true false false) := by
 refine returnsInHanded_of_cond (C := Tryz.checked) (s := Rows.OpenSpec.upto Rows.consortAllotsSpec) (k := Rows.uptoSmall) rfl own started (by kernel_rfl) Tryz.func8
  (OpenSpec.witness (enc := enc) (C := Tryz.checked) (s := Rows.OpenSpec.upto Rows.consortAllotsSpec) (k := Rows.uptoSmall) rfl false ⟨#[],#[.slice none 0 0,.slice none 0 0,.int .i64 0],[]⟩ 8 (by kernel_rfl) (by kernel_rfl) (by kernel_rfl)
   (x := ([.nil,.nil,.lit (.int .i64 0)],[],[])) (by kernel_rfl) rfl (by kernel_rfl)) ?_
 intro W base args ds gs before hval hW _ hk _
 exact consortAllots_contract H enc W base args ds gs before hval hW hk
theorem consortAllots_holds : Rows.ConsortAllotsUptoSaid :=
 OpenClaim.holds_of_cond 8 Tryz.f8 rfl rfl rfl rfl rfl rfl rfl ⟨rfl,rfl,rfl,rfl,rfl⟩ rfl rfl rfl rfl rfl (by kernel_rfl) Tryz.func8 consortAllots_facts
  (of_decide_eq_true (by kernel_rfl)) (by unfold Func.isWrapper; first | (rw [if_pos (by decide +kernel)]; kernel_rfl) | (rw [if_neg (by decide +kernel)]; exact ⟨rfl,rfl⟩))
  (fun os started H enc _ F => consortAllots_lifted os started H enc F)
end Go.Proofs.YtodkhgjhodmeoaaGreat
