/-
  'theorbolaw08.IntabulateCounts' returns true for every input and leaves its arguments as they were: the stops, times and what is left of a setting are counted, for every job. (Where what it reads is of bulk at most 1048576; nothing else is asked.)
-/
import Derived.Test.YtpbahncblggodaaGreatTW
import Derived.Test.YtpbahncblggodaaGreatJE
import Derived.Test.YtpbahncblggodaaGreatRdJ
import Derived.Test.YtpbahncblggodaaGreatCountsF
namespace Go.Proofs.YtpbahncblggodaaGreat
open Go Go.Am Go.ChangeShapes Go.WideShapes Go.ChangeAt Go.RowKit Go.Deep
set_option maxRecDepth 100000
set_option linter.all false
theorem pg(a0:gk)(s0:bU a0.cA):dQ Tryz.prog 7 [nh a0] ⟨[],0⟩ λx _=>x=.bool true:=
 (f7_t a0 true (f7_y a0 s0) ⟨[],0⟩).mono λx s h=>h.1
theorem mY(H:Type)(enc:TypeId×Value->H)(W:World)(bR:Nat)(args:Array Value)(ds gs:List (DataW H))(before:List MemPlace)
  (Jf: ∀(j:Nat)t v,Tryz.f7.params[j]? =some t->args[j]? =some v->Value.okWide Tryz.prog W .any bR t v)
  (hW:DataW.Whole enc Tryz.prog Tryz.f7.params.toList Rows.intabulateCountsSpec.vars false W args.toList ds gs before) (hk:Rows.uptoSmall H (ds++gs)=true):
  Calls Tryz.prog 7 args W λe W'=> ∃v,e=.returned v/\Rows.intabulateCountsSpec.post enc Tryz.prog Tryz.f7 false true false false W args v W':=by
 have hW':=hW
 obtain⟨p,q,hA0,hV,hbe,hfz,qQ⟩:=hW
 have Jc:Tryz.f7.params.toList=[31]:=by kernel_rfl
 rw[Jc]at hA0
 obtain⟨v0,vs0,d0,ds0,p0,q0,ha0,rfl,hp0,h0,r0⟩:=trodAll_cons hA0
 obtain⟨rfl,rfl,Tl⟩:=trodAll_nil r0
 obtain rfl:args= #[v0]:=by cases args;simp_all
 have hpa:Tryz.f7.params= #[31]:=by kernel_rfl
 rw[hpa]at Jf
 obtain⟨a0,o0,m0,e0⟩:=Tm.arg (Jf 0 31 v0 rfl rfl) h0
 have hbk:Rows.uptoBulkAll [d0]<=1048576:=by
  have:=U7 hk
  have h2: ∀(x y:List (DataW H)),Rows.uptoBulkAll x<=Rows.uptoBulkAll (x++y):=by
   intro x y
   induction x with
   |nil=>simp[Rows.uptoBulkAll]
   |cons d x ih=>simp only[wI,Rows.uptoBulkAll];omega
  exact vU (h2 _ gs) this
 simp only[Rows.uptoBulkAll]at hbk
 have s0:bU a0.cA:=Nb (by omega)
 refine(FO (pg a0 s0) (λx s h=>h) (VL.cons e0 VL.nil)).mono λe W' ⟨he,hk⟩=>⟨_,he,?_⟩
 exact KO 4 kids full (by rw[Jc];intro t ht;simp only[mU,List.not_mem_nil,or_false]at ht;rcases ht with rfl<;>exact U7 (by kernel_rfl)) rfl (by kernel_rfl) (by kernel_rfl) hW' (λds' e=>by subst e;rfl) hk
theorem oi(os:Os)(started:os.Started)(H:Type)(enc:TypeId×Value->H)(F:Stop.Interp):
  ReturnsInHanded {} Tryz.checked os 7 .any ((Rows.OpenSpec.upto Rows.intabulateCountsSpec).pre6 enc Tryz.prog Tryz.f7 Rows.intabulateCountsUptoRow.domain false) (((Rows.OpenSpec.upto Rows.intabulateCountsSpec).at F).post enc Tryz.prog Tryz.f7 false true false false):=by
 refine returnsInHanded_of_cond (C:=Tryz.checked) (s:=Rows.OpenSpec.upto Rows.intabulateCountsSpec) (k:=Rows.uptoSmall) rfl own started (by kernel_rfl) Tryz.func7
  (OpenSpec.witness (enc:=enc) (C:=Tryz.checked) (s:=Rows.OpenSpec.upto Rows.intabulateCountsSpec) (k:=Rows.uptoSmall) rfl false ⟨#[],#[.agg #[.slice none 0 0,.slice none 0 0,.slice none 0 0,.slice none 0 0,.slice none 0 0,.slice none 0 0,.int .i64 0,.int .i64 0,.int .i64 0,.int .i64 0,.int .i64 0,.int .i64 0,.int .i64 0,.int .i64 0]],[]⟩ 8 (by kernel_rfl) (by kernel_rfl) (by kernel_rfl)
   (x:=([.agg [.nil,.agg [.nil,.nil],.agg [.nil,.nil,.nil,.lit (.int .i64 0),.lit (.int .i64 0),.lit (.int .i64 0),.lit (.int .i64 0),.lit (.int .i64 0),.lit (.int .i64 0),.lit (.int .i64 0)],.lit (.int .i64 0)]],[],[])) (by kernel_rfl) rfl (by kernel_rfl)) ?_
 intro W bR args ds gs before Jf hW _ hk _
 exact mY H enc W bR args ds gs before Jf hW hk
theorem intabulateCounts_holds:Rows.IntabulateCountsUptoSaid:=
 OpenClaim.holds_of_cond 7 Tryz.f7 rfl rfl rfl rfl rfl rfl rfl ⟨rfl,rfl,rfl,rfl,rfl⟩ rfl rfl rfl rfl rfl (by kernel_rfl) Tryz.func7 pj
  (U7 (by kernel_rfl)) (by unfold Func.isWrapper;first|(rw[dD (by decide+kernel)];kernel_rfl)|(rw[dM (by decide+kernel)];exact⟨rfl,rfl⟩))
  (λos started H enc _ F=>oi os started H enc F)
end Go.Proofs.YtpbahncblggodaaGreat
