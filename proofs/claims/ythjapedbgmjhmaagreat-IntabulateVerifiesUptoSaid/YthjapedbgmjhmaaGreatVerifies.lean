/-
 'theorbolaw08.IntabulateVerifies' returns true for every input and leaves its arguments as they were: Verify,Left and Lost give what the reference gives,for every parts and setting. (Where what it reads is of bulk at most 1048576; nothing else is asked.)
-/
import Derived.Test.YthjapedbgmjhmaaGreatRdV
import Derived.Test.YthjapedbgmjhmaaGreatVerifiesF
namespace Go.Proofs.YthjapedbgmjhmaaGreat
open Go Go.Am Go.ChangeShapes Go.WideShapes Go.ChangeAt Go.RowKit Go.Deep
set_option maxRecDepth 100000
set_option linter.all false
theorem intabulateVerifies_calls (a0 : List (List GTone)) (a1 : GSetting) (s0 : Small a0) (s1 : SmallP a1.piece) (s2 : Small a1.losses) : ACalls Tryz.prog 3 [SL (SL E_GTone) a0,E_GSetting a1] ⟨[],0⟩ fun x _ => x = .bool true :=
 (f3_t a0 a1 true (f3_eq a0 a1 s0 s1 s2) ⟨[],0⟩).mono fun x s h => h.1
theorem intabulateVerifies_contract (H : Type) (enc : TypeId × Value → H) (W : World) (base : Nat) (args : Array Value) (ds gs : List (DataW H)) (before : List MemPlace)
  (hval : ∀ (j : Nat) t v,Tryz.f3.params[j]? = some t → args[j]? = some v → Value.okWide Tryz.prog W .any base t v)
  (hW : DataW.Whole enc Tryz.prog Tryz.f3.params.toList Rows.intabulateVerifiesSpec.vars false W args.toList ds gs before) (hk : Rows.uptoSmall H (ds ++ gs) = true) :
  Calls Tryz.prog 3 args W fun e W' => ∃ v,e = .returned v ∧ Rows.intabulateVerifiesSpec.post enc Tryz.prog Tryz.f3 false true false false W args v W' := by
 have hW' := hW
 obtain ⟨p,q,hA0,hV,hbe,hfz,hnd⟩ := hW
 have hpar : Tryz.f3.params.toList = [22,33] := by kernel_rfl
 rw [hpar] at hA0
 obtain ⟨v0,vs0,d0,ds0,p0,q0,ha0,rfl,hp0,h0,r0⟩ := trodAll_cons hA0
 obtain ⟨v1,vs1,d1,ds1,p1,q1,ha1,rfl,hp1,h1,r1⟩ := trodAll_cons r0
 obtain ⟨rfl,rfl,hp2⟩ := trodAll_nil r1
 subst ha1
 obtain rfl : args = #[v0,v1] := by cases args; simp_all
 have hpa : Tryz.f3.params = #[22,33] := by kernel_rfl
 rw [hpa] at hval
 obtain ⟨a0,o0,m0,e0⟩ := rd_parts.arg (hval 0 22 v0 rfl rfl) h0
 obtain ⟨a1,o1,m1,e1⟩ := rd_set.arg (hval 1 33 v1 rfl rfl) h1
 have hbk : Rows.uptoBulkAll [d0,d1] ≤ 1048576 := by
  have := of_decide_eq_true hk
  have h2 : ∀ (x y : List (DataW H)),Rows.uptoBulkAll x ≤ Rows.uptoBulkAll (x ++ y) := by
   intro x y
   induction x with
   | nil => simp [Rows.uptoBulkAll]
   | cons d x ih => simp only [List.cons_append,Rows.uptoBulkAll]; omega
  exact Nat.le_trans (h2 _ gs) this
 simp only [Rows.uptoBulkAll] at hbk
 have s0 : Small a0 := by
  have := lm_len rd_tones.mpos a0
  simp only [Small]; omega
 have s1 : SmallP a1.piece := (size_ofS (by omega)).1
 have s2 : Small a1.losses := (size_ofS (by omega)).2
 refine (calls_kept (intabulateVerifies_calls a0 a1 s0 s1 s2) (fun x s h => h) (VL.cons e0 (VL.cons e1 VL.nil))).mono fun e W' ⟨he,hk⟩ => ⟨_,he,?_⟩
 exact law_post 4 kids full (by rw [hpar]; intro t ht; simp only [List.mem_cons,List.not_mem_nil,or_false] at ht; rcases ht with rfl | rfl <;> exact of_decide_eq_true (by kernel_rfl)) rfl (by kernel_rfl) (by kernel_rfl) hW' (fun ds' e => by subst e; rfl) hk
theorem intabulateVerifies_lifted (os : Os) (started : os.Started) (H : Type) (enc : TypeId × Value → H) (F : Stop.Interp) :
  ReturnsInHanded {} Tryz.checked os 3 .any ((Rows.OpenSpec.upto Rows.intabulateVerifiesSpec).pre6 enc Tryz.prog Tryz.f3 Rows.intabulateVerifiesUptoRow.domain false) (((Rows.OpenSpec.upto Rows.intabulateVerifiesSpec).at F).post enc Tryz.prog Tryz.f3 false true false false) := by
 refine returnsInHanded_of_cond (C := Tryz.checked) (s := Rows.OpenSpec.upto Rows.intabulateVerifiesSpec) (k := Rows.uptoSmall) rfl own started (by kernel_rfl) Tryz.func3
  (OpenSpec.witness (enc := enc) (C := Tryz.checked) (s := Rows.OpenSpec.upto Rows.intabulateVerifiesSpec) (k := Rows.uptoSmall) rfl false ⟨#[],#[.slice none 0 0,.agg #[.slice none 0 0,.slice none 0 0,.slice none 0 0,.int .i64 0,.slice none 0 0,.slice none 0 0]],[]⟩ 8 (by kernel_rfl) (by kernel_rfl) (by kernel_rfl)
   (x := ([.nil,.agg [.agg [.agg [.nil,.nil],.nil],.lit (.int .i64 0),.nil,.nil]],[],[])) (by kernel_rfl) rfl (by kernel_rfl)) ?_
 intro W base args ds gs before hval hW _ hk _
 exact intabulateVerifies_contract H enc W base args ds gs before hval hW hk
theorem intabulateVerifies_holds : Rows.IntabulateVerifiesUptoSaid :=
 OpenClaim.holds_of_cond 3 Tryz.f3 rfl rfl rfl rfl rfl rfl rfl ⟨rfl,rfl,rfl,rfl,rfl⟩ rfl rfl rfl rfl rfl (by kernel_rfl) Tryz.func3 intabulateVerifies_facts
  (of_decide_eq_true (by kernel_rfl)) (by unfold Func.isWrapper; first | (rw [if_pos (by decide +kernel)]; kernel_rfl) | (rw [if_neg (by decide +kernel)]; exact ⟨rfl,rfl⟩))
  (fun os started H enc _ F => intabulateVerifies_lifted os started H enc F)
end Go.Proofs.YthjapedbgmjhmaaGreat
