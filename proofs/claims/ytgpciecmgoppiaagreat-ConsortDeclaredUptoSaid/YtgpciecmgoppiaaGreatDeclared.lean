/-
  'theorbolaw09.ConsortDeclared' returns true for every input and leaves its arguments as they were: what Make returns is a valid consort, each desk plays what its setting declares, and behind the events of its setting there are rests alone, for every parts and desks. (Where what it reads is of bulk at most 1048576; nothing else is asked.)
-/
import Derived.Test.YtgpciecmgoppiaaGreatTW
import Derived.Test.YtgpciecmgoppiaaGreatJF
import Derived.Test.YtgpciecmgoppiaaGreatRdD
import Derived.Test.YtgpciecmgoppiaaGreatDeclaredF
namespace Go.Proofs.YtgpciecmgoppiaaGreat
open Go Go.Am Go.ChangeShapes Go.WideShapes Go.ChangeAt Go.RowKit Go.Deep
set_option maxRecDepth 100000
set_option linter.all false
theorem qb(a0:List (List bH))(a1:List kF)(s0:Px a0 a1):dw Tryz.prog 4 [SL (SL lU) a0,SL uG a1] ⟨[],0⟩ λx _=>x=.bool true:=
 (f4_t a0 a1 true (f4_y a0 a1 s0.p s0.d s0.e) ⟨[],0⟩).mono λx s h=>h.1
theorem om(H:Type)(enc:TypeId×Value->H)(W:World)(bG:Nat)(args:Array Value)(ds gs:List (DataW H))(before:List MemPlace)
  (HB: ∀(j:Nat)t v,Tryz.f4.params[j]? =some t->args[j]? =some v->Value.okWide Tryz.prog W .any bG t v)
  (hW:DataW.Whole enc Tryz.prog Tryz.f4.params.toList Rows.consortDeclaredSpec.vars false W args.toList ds gs before) (hk:Rows.uptoSmall H (ds++gs)=true):
  Calls Tryz.prog 4 args W λe W'=> ∃v,e=.returned v/\Rows.consortDeclaredSpec.post enc Tryz.prog Tryz.f4 false true false false W args v W':=by
 have hW':=hW;obtain⟨p,q,hA0,hV,hbe,hfz,tC⟩:=hW;have MH:Tryz.f4.params.toList=[22,23]:=by kernel_rfl
 rw[MH]at hA0;obtain⟨v0,vs0,d0,ds0,p0,q0,ha0,rfl,hp0,h0,r0⟩:=trodAll_cons hA0;obtain⟨v1,vs1,d1,ds1,p1,q1,ha1,rfl,U5,h1,r1⟩:=trodAll_cons r0;obtain⟨rfl,rfl,hp2⟩:=trodAll_nil r1;subst ha1;obtain rfl:args= #[v0,v1]:=by cases args;simp_all
 have hpa:Tryz.f4.params= #[22,23]:=by kernel_rfl
 rw[hpa]at HB;obtain⟨a0,o0,m0,e0⟩:=Pv.arg (HB 0 22 v0 rfl rfl) h0;obtain⟨a1,o1,m1,e1⟩:=Pw.arg (HB 1 23 v1 rfl rfl) h1;have hbk:Rows.uptoBulkAll [d0,d1]<=1048576:=by
  have:=Wp hk;have h2: ∀(x y:List (DataW H)),Rows.uptoBulkAll x<=Rows.uptoBulkAll (x++y):=by
   intro x y
   induction x with
   |nil=>simp[Rows.uptoBulkAll]
   |cons d x ih=>simp only[Al,Rows.uptoBulkAll];omega
  exact AW (h2 _ gs) this
 simp only[Rows.uptoBulkAll]at hbk;have s0:Px a0 a1:=VE (by omega) (by omega);refine(Hz (qb a0 a1 s0) (λx s h=>h) trivial (VL.cons e0 (VL.cons e1 VL.nil))).mono λe W' ⟨he,hk⟩=>⟨_,he,?_⟩;exact Oi 4 kids full (by rw[MH];intro t ht;simp only[pU,List.not_mem_nil,or_false]at ht;rcases ht with rfl|rfl<;>exact Wp (by kernel_rfl)) rfl (by kernel_rfl) (by kernel_rfl) hW' (λds' e=>by subst e;rfl) hk
theorem pI(os:Os)(started:os.Started)(H:Type)(enc:TypeId×Value->H)(F:Stop.Interp):
  ReturnsInHanded {} Tryz.checked os 4 .any ((Rows.OpenSpec.upto Rows.consortDeclaredSpec).pre6 enc Tryz.prog Tryz.f4 Rows.consortDeclaredUptoRow.domain false) (((Rows.OpenSpec.upto Rows.consortDeclaredSpec).at F).post enc Tryz.prog Tryz.f4 false true false false):=by
 refine returnsInHanded_of_cond (C:=Tryz.checked) (s:=Rows.OpenSpec.upto Rows.consortDeclaredSpec) (k:=Rows.uptoSmall) rfl own started (by kernel_rfl) Tryz.func4
  (OpenSpec.witness (enc:=enc) (C:=Tryz.checked) (s:=Rows.OpenSpec.upto Rows.consortDeclaredSpec) (k:=Rows.uptoSmall) rfl false ⟨#[],#[.slice none 0 0,.slice none 0 0],[]⟩ 8 (by kernel_rfl) (by kernel_rfl) (by kernel_rfl)
   (x:=([.nil,.nil],[],[])) (by kernel_rfl) rfl (by kernel_rfl)) ?_
 intro W bG args ds gs before HB hW _ hk _;exact om H enc W bG args ds gs before HB hW hk
theorem consortDeclared_holds:Rows.ConsortDeclaredUptoSaid:=
 OpenClaim.holds_of_cond 4 Tryz.f4 rfl rfl rfl rfl rfl rfl rfl ⟨rfl,rfl,rfl,rfl,rfl⟩ rfl rfl rfl rfl rfl (by kernel_rfl) Tryz.func4 qa
  (Wp (by kernel_rfl)) (by unfold Func.isWrapper;first|(rw[ez (by decide+kernel)];kernel_rfl)|(rw[fN (by decide+kernel)];exact⟨rfl,rfl⟩))
  (λos started H enc _ F=>pI os started H enc F)
end Go.Proofs.YtgpciecmgoppiaaGreat
