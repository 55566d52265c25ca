/-
  'theorbolaw08.IntabulateSounds' returns true for every input and leaves its arguments as they were: a setting sounds the parts, less what it declares, for every job. (Where what it reads is of bulk at most 1048576; nothing else is asked.)
-/
import Derived.Test.YtpbahncblggodaaGreatTW
import Derived.Test.YtpbahncblggodaaGreatJE
import Derived.Test.YtpbahncblggodaaGreatRdJ
import Derived.Test.YtpbahncblggodaaGreatSoundsF
namespace Go.Proofs.YtpbahncblggodaaGreat
open Go Go.Am Go.ChangeShapes Go.WideShapes Go.ChangeAt Go.RowKit Go.Deep
set_option maxRecDepth 100000
set_option linter.all false
theorem oU(a0:fY)(s0:bT a0.cu):dJ Tryz.prog 6 [mP a0] ⟨[],0⟩ λx _=>x=.bool true:=
 (f6_t a0 true (f6_y a0 s0) ⟨[],0⟩).mono λx s h=>h.1
theorem mG(H:Type)(enc:TypeId×Value->H)(W:World)(bQ:Nat)(args:Array Value)(ds gs:List (DataW H))(before:List MemPlace)
  (Iu: ∀(j:Nat)t v,Tryz.f6.params[j]? =some t->args[j]? =some v->Value.okWide Tryz.prog W .any bQ t v)
  (hW:DataW.Whole enc Tryz.prog Tryz.f6.params.toList Rows.intabulateSoundsSpec.vars false W args.toList ds gs before) (hk:Rows.uptoSmall H (ds++gs)=true):
  Calls Tryz.prog 6 args W λe W'=> ∃v,e=.returned v/\Rows.intabulateSoundsSpec.post enc Tryz.prog Tryz.f6 false true false false W args v W':=by
 have hW':=hW
 obtain⟨p,q,hA0,hV,hbe,hfz,rB⟩:=hW
 have Ir:Tryz.f6.params.toList=[31]:=by kernel_rfl
 rw[Ir]at hA0
 obtain⟨v0,vs0,d0,ds0,p0,q0,ha0,rfl,hp0,h0,r0⟩:=trodAll_cons hA0
 obtain⟨rfl,rfl,Sq⟩:=trodAll_nil r0
 obtain rfl:args= #[v0]:=by cases args;simp_all
 have hpa:Tryz.f6.params= #[31]:=by kernel_rfl
 rw[hpa]at Iu
 obtain⟨a0,o0,m0,e0⟩:=S1.arg (Iu 0 31 v0 rfl rfl) h0
 have hbk:Rows.uptoBulkAll [d0]<=1048576:=by
  have:=of_decide_eq_true hk
  have h2: ∀(x y:List (DataW H)),Rows.uptoBulkAll x<=Rows.uptoBulkAll (x++y):=by
   intro x y
   induction x with
   |nil=>simp[Rows.uptoBulkAll]
   |cons d x ih=>simp only[vT,Rows.uptoBulkAll];omega
  exact vS (h2 _ gs) this
 simp only[Rows.uptoBulkAll]at hbk
 have s0:bT a0.cu:=Nh (by omega)
 refine(E0 (oU a0 s0) (λx s h=>h) (VL.cons e0 VL.nil)).mono λe W' ⟨he,hk⟩=>⟨_,he,?_⟩
 exact J4 4 kids full (by rw[Ir];intro t ht;simp only[mB,List.not_mem_nil,or_false]at ht;rcases ht with rfl<;>exact of_decide_eq_true (by kernel_rfl)) rfl (by kernel_rfl) (by kernel_rfl) hW' (λds' e=>by subst e;rfl) hk
theorem nY(os:Os)(started:os.Started)(H:Type)(enc:TypeId×Value->H)(F:Stop.Interp):
  ReturnsInHanded {} Tryz.checked os 6 .any ((Rows.OpenSpec.upto Rows.intabulateSoundsSpec).pre6 enc Tryz.prog Tryz.f6 Rows.intabulateSoundsUptoRow.domain false) (((Rows.OpenSpec.upto Rows.intabulateSoundsSpec).at F).post enc Tryz.prog Tryz.f6 false true false false):=by
 refine returnsInHanded_of_cond (C:=Tryz.checked) (s:=Rows.OpenSpec.upto Rows.intabulateSoundsSpec) (k:=Rows.uptoSmall) rfl own started (by kernel_rfl) Tryz.func6
  (OpenSpec.witness (enc:=enc) (C:=Tryz.checked) (s:=Rows.OpenSpec.upto Rows.intabulateSoundsSpec) (k:=Rows.uptoSmall) rfl false ⟨#[],#[.agg #[.slice none 0 0,.slice none 0 0,.slice none 0 0,.slice none 0 0,.slice none 0 0,.slice none 0 0,.int .i64 0,.int .i64 0,.int .i64 0,.int .i64 0,.int .i64 0,.int .i64 0,.int .i64 0,.int .i64 0]],[]⟩ 8 (by kernel_rfl) (by kernel_rfl) (by kernel_rfl)
   (x:=([.agg [.nil,.agg [.nil,.nil],.agg [.nil,.nil,.nil,.lit (.int .i64 0),.lit (.int .i64 0),.lit (.int .i64 0),.lit (.int .i64 0),.lit (.int .i64 0),.lit (.int .i64 0),.lit (.int .i64 0)],.lit (.int .i64 0)]],[],[])) (by kernel_rfl) rfl (by kernel_rfl)) ?_
 intro W bQ args ds gs before Iu hW _ hk _
 exact mG H enc W bQ args ds gs before Iu hW hk
theorem intabulateSounds_holds:Rows.IntabulateSoundsUptoSaid:=
 OpenClaim.holds_of_cond 6 Tryz.f6 rfl rfl rfl rfl rfl rfl rfl ⟨rfl,rfl,rfl,rfl,rfl⟩ rfl rfl rfl rfl rfl (by kernel_rfl) Tryz.func6 oV
  (of_decide_eq_true (by kernel_rfl)) (by unfold Func.isWrapper;first|(rw[if_pos (by decide+kernel)];kernel_rfl)|(rw[if_neg (by decide+kernel)];exact⟨rfl,rfl⟩))
  (λos started H enc _ F=>nY os started H enc F)
end Go.Proofs.YtpbahncblggodaaGreat
