/- 'theorbotop.TopSungBack' returns true for every input and leaves its arguments as they were: an arrangement that loses nothing is sung back from its notes, for every job. (Where what it reads is of bulk at most 1048576; nothing else is asked.). -/
import Derived.Test.YtfdnjgoegamonaaGreatDoorTW
import Derived.Test.YtfdnjgoegamonaaGreatDoorJF
import Derived.Test.YtfdnjgoegamonaaGreatDoorRdT
import Derived.Test.YtfdnjgoegamonaaGreatDoorBl
import Derived.Test.YtfdnjgoegamonaaGreatDoorTopF
import Derived.Test.YtfdnjgoegamonaaGreatDoorCards
import Derived.Test.YtfdnjgoegamonaaGreatDoorTie
import Derived.WalkKit
import Derived.ProofKit
import Derived.OpenShut
import Derived.Deep.DeepHandedRow
namespace Go.Proofs.YtfdnjgoegamonaaGreatDoor
open Go Go.Am Go.ChangeShapes Go.WideShapes Go.ChangeAt Go.RowKit Go.Deep
set_option maxRecDepth 100000
set_option linter.all false
theorem vl(a0:jW)(s0:a0.cR.length<=1048576/\(a0.cR.map List.length).sum<=1048576):dQ zP 3 [sd a0] ⟨[],0⟩ λx _=>x=.bool true:=
 (f3_t a0 true (f3_eq a0 s0.1 s0.2) ⟨[],0⟩).mono λx s h=>h.1
theorem rq(H:Type)(enc:TypeId×Value->H)(W:World)(cn:Nat)(args:Array Value)(ds gs:List (DataW H))(before:List MemPlace)
  (KM: ∀(j:Nat)t v,Tryz.f3.params[j]? =some t->args[j]? =some v->Value.okWide zP W .any cn t v)
  (hW:DataW.Whole enc zP Tryz.f3.params.toList Rows.topSungBackSpec.vars false W args.toList ds gs before) (hk:Rows.uptoSmall H (ds++gs)=true) (hL:laidMetH zP Rows.topSungBackUptoRow.laid W):
  Calls zP 3 args W λe W'=> ∃v,e=.returned v/\Rows.topSungBackSpec.post enc zP Tryz.f3 false true false false W args v W':=by
 have hW':=hW;obtain⟨p,q,hA0,hV,hbe,hfz,sK⟩:=hW;have Kg:Tryz.f3.params.toList=[28]:=by kernel_rfl
 rw[Kg]at hA0;obtain⟨v0,vs0,d0,ds0,p0,q0,ha0,rfl,Zu,h0,r0⟩:=trodAll_cons hA0;obtain⟨rfl,rfl,Uv⟩:=trodAll_nil r0;obtain rfl:args= #[v0]:=by cases args;simp_all
 have hpa:Tryz.f3.params= #[28]:=by kernel_rfl
 rw[hpa]at KM;obtain⟨a0,o0,m0,e0⟩:=U6.arg (KM 0 28 v0 rfl rfl) h0;have hbk:Rows.uptoBulkAll [d0]<=1048576:=by
  have:=Rf hk;have h2: ∀(x y:List (DataW H)),Rows.uptoBulkAll x<=Rows.uptoBulkAll (x++y):=by
   intro x y
   induction x with
   |nil=>simp[Rows.uptoBulkAll]
   |cons d x ih=>simp only[yh,Rows.uptoBulkAll];omega
  exact xz (h2 _ gs) this
 simp only[Rows.uptoBulkAll]at hbk;have s0:a0.cR.length<=1048576/\(a0.cR.map List.length).sum<=1048576:=OY (by omega);refine(Hx (vl a0 s0) (λx s h=>h) (Li hL) (VL.cons e0 VL.nil)).mono λe W' ⟨he,hk⟩=>⟨_,he,?_⟩;exact NM 4 kids full (by rw[Kg];intro t ht;simp only[mZ,List.not_mem_nil,or_false]at ht;rcases ht with rfl<;>exact Rf (by kernel_rfl)) rfl (by kernel_rfl) (by kernel_rfl) hW' (λds' e=>by subst e;rfl) hk
noncomputable def wu(os:Os):World:=
 {World.holding zP os ⟨#[],#[],[]⟩with heap:=((((World.holding zP os ⟨#[],#[],[]⟩).heap.modify 0 (λ|.cells _ t z=>.cells (na.map (Value.int .i64)).toArray t z|o=>o)).modify 2 (λ|.cells _ t z=>.cells (Pinned.utf8FirstZ.map λ(n:Nat)=>Value.int .u8 (n:Int)).toArray t z|o=>o)).modify 3 (λ|.cells _ t z=>.cells (aa5.map (Value.int .u8)).toArray t z|o=>o))}
theorem OZ(os:Os):laidMet zP Rows.topSungBackUptoRow.laid ((wu os).forCall (λ_ _=>0) ⟨#[],#[.agg #[.slice none 0 0,.string .empty,.slice none 0 0,.slice none 0 0,.slice none 0 0,.int .i64 0,.int .i64 0,.int .i64 0,.int .i64 0,.int .i64 0,.int .i64 0,.int .i64 0,.int .i64 0]],[]⟩).memory:=
 laidMet_of_run' 8 (by kernel_rfl) (by kernel_rfl)
theorem reads(os:Os){H:Type}(enc:TypeId×Value->H): ∃places,DataW.whole enc zP ((wu os).forCall (λ_ _=>0) ⟨#[],#[.agg #[.slice none 0 0,.string .empty,.slice none 0 0,.slice none 0 0,.slice none 0 0,.int .i64 0,.int .i64 0,.int .i64 0,.int .i64 0,.int .i64 0,.int .i64 0,.int .i64 0,.int .i64 0]],[]⟩).memory Tryz.f3.params.toList Rows.topSungBackSpec.vars false (#[.agg #[.slice none 0 0,.string .empty,.slice none 0 0,.slice none 0 0,.slice none 0 0,.int .i64 0,.int .i64 0,.int .i64 0,.int .i64 0,.int .i64 0,.int .i64 0,.int .i64 0,.int .i64 0]]:Array Value).toList 8=some ([.agg [.nil,.lit (.string []),.agg [.nil,.nil,.nil,.lit (.int .i64 0),.lit (.int .i64 0),.lit (.int .i64 0),.lit (.int .i64 0),.lit (.int .i64 0),.lit (.int .i64 0),.lit (.int .i64 0)],.lit (.int .i64 0)]],[],places):=
 ⟨[],by kernel_rfl⟩
theorem tI(os:Os)(started:os.Started)(H:Type)(enc:TypeId×Value->H)(F:Stop.Interp):
  ReturnsInHanded {} Tryz.checked os 3 .any ((Rows.OpenSpec.upto Rows.topSungBackSpec).preRow enc zP Tryz.f3 Rows.topSungBackUptoRow.domain false Rows.topSungBackUptoRow.laid) (((Rows.OpenSpec.upto Rows.topSungBackSpec).at F).post enc zP Tryz.f3 false true false false):=by
 obtain⟨places,hx⟩:=reads os enc;refine returnsInHanded_of_row (C:=Tryz.checked) (s:=Rows.OpenSpec.upto Rows.topSungBackSpec) own started (by kernel_rfl) Tryz.func3
  (witness_row_at (enc:=enc) (C:=Tryz.checked) false (wu os) #[.agg #[.slice none 0 0,.string .empty,.slice none 0 0,.slice none 0 0,.slice none 0 0,.int .i64 0,.int .i64 0,.int .i64 0,.int .i64 0,.int .i64 0,.int .i64 0,.int .i64 0,.int .i64 0]] rfl (by kernel_rfl) (by kernel_rfl) (by kernel_rfl)
   (OpenSpec.preRow_of_cond 8 hx (by kernel_rfl) (λk hk=>by cases hk;kernel_rfl) (by kernel_rfl) (OZ os))) ?_
 intro W cn args ds gs before KM hW _ Yi _ hL _ _;exact rq H enc W cn args ds gs before KM hW (Yi _ rfl) hL
theorem wv:Rows.TopSungBackUptoSaid:=
 OpenClaim.holds_of_cond 3 Tryz.f3 rfl rfl rfl rfl rfl rfl rfl ⟨rfl,rfl,rfl,rfl,rfl⟩ rfl rfl rfl rfl rfl (by kernel_rfl) Tryz.func3 vk
  (Rf (by kernel_rfl)) (by unfold Func.isWrapper;first|(rw[dP (by decide+kernel)];kernel_rfl)|(rw[dY (by decide+kernel)];exact⟨rfl,rfl⟩))
  (λos started H enc _ F=>by rw[OpenClaim.pre_eq_preRow];exact tI os started H enc F)
theorem plain (f : FuncId) (fn : Func) (hf : Tryz.pinned.checked.prog.funcNamed Tryz.f3.name = some f) (LS : Tryz.pinned.checked.prog.funcs[f]? = some fn) :
  false=Tryz.pinned.checked.prog.looks []/\ ∀(j:Nat)t,fn.params[j]? =some t->Tryz.pinned.checked.prog.wantsStandIn t=false:=by
 obtain rfl : f = 3 := Option.some.inj ((show zP.funcNamed Tryz.f3.name = some 3 by kernel_rfl).symm.trans hf) |>.symm
 obtain rfl:fn=Tryz.f3:=(Option.some.inj (Tryz.func3.symm.trans LS)).symm;refine⟨by kernel_rfl,λj t ht=>?_⟩;rw[show Tryz.f3.params= #[28]by kernel_rfl]at ht;obtain rfl:t=28:=by simpa using Array.mem_of_getElem? ht
 exact(show zP.wantsStandIn 28=false by kernel_rfl)
theorem topSungBack_holds:Rows.TopSungBackUptoCardSaid:=
 Claim7.holds_tied_plain_at .later [] _ _ _ _ wv (λ_ h=>by cases h) (by kernel_rfl) (λ_ h=>by cases h) topSungBackUpto_row_tie rfl ⟨rfl,rfl⟩ (by kernel_rfl) rfl plain (by kernel_rfl)
end Go.Proofs.YtfdnjgoegamonaaGreatDoor
