/-
  'theorbolaw08.IntabulateAlone' returns true for every input and leaves its arguments as they were: of one part alone nothing is doubled or cut, and if the hand may jump anywhere and can stop each place of the instrument alone, exactly those tones are dropped that have no place, for every part, instrument and hand. (No condition.)
-/
import Derived.Test.YtpbahncblggodaaGreatTW
import Derived.Test.YtpbahncblggodaaGreatJC
import Derived.Test.YtpbahncblggodaaGreatRdA
import Derived.Test.YtpbahncblggodaaGreatAloneF
namespace Go.Proofs.YtpbahncblggodaaGreat
open Go Go.Am Go.ChangeShapes Go.WideShapes Go.ChangeAt Go.RowKit Go.Deep
set_option maxRecDepth 100000
set_option linter.all false
theorem intabulateAlone_calls(a0:List GTone)(a1:GInstrument)(a2:GHand):ACalls Tryz.prog 4 [SL E_GTone a0,E_GInstrument a1,E_GHand a2] ⟨[],0⟩ λx _=>x=.bool true:=
 (f4_t a0 a1 a2 true (f4_eq a0 a1 a2) ⟨[],0⟩).mono λx s h=>h.1
theorem intabulateAlone_contract(H:Type)(enc:TypeId×Value->H)(W:World)(base:Nat)(args:Array Value)(ds gs:List (DataW H))(before:List MemPlace)
  (hval: ∀(j:Nat)t v,Tryz.f4.params[j]? =some t->args[j]? =some v->Value.okWide Tryz.prog W .any base t v)
  (hW:DataW.Whole enc Tryz.prog Tryz.f4.params.toList Rows.intabulateAloneSpec.vars false W args.toList ds gs before):
  Calls Tryz.prog 4 args W λe W'=> ∃v,e=.returned v/\Rows.intabulateAloneSpec.post enc Tryz.prog Tryz.f4 false true false false W args v W':=by
 have hW':=hW
 obtain⟨p,q,hA0,hV,hbe,hfz,hnd⟩:=hW
 have hpar:Tryz.f4.params.toList=[45,26,29]:=by kernel_rfl
 rw[hpar]at hA0
 obtain⟨v0,vs0,d0,ds0,p0,q0,ha0,rfl,hp0,h0,r0⟩:=trodAll_cons hA0
 obtain⟨v1,vs1,d1,ds1,p1,q1,ha1,rfl,hp1,h1,r1⟩:=trodAll_cons r0
 obtain⟨v2,vs2,d2,ds2,p2,q2,ha2,rfl,hp2,h2,r2⟩:=trodAll_cons r1
 obtain⟨rfl,rfl,hp3⟩:=trodAll_nil r2
 subst ha2
 subst ha1
 obtain rfl:args= #[v0,v1,v2]:=by cases args;simp_all
 have hpa:Tryz.f4.params= #[45,26,29]:=by kernel_rfl
 rw[hpa]at hval
 obtain⟨a0,o0,m0,e0⟩:=rd_tones.arg (hval 0 45 v0 rfl rfl) h0
 obtain⟨a1,o1,m1,e1⟩:=rd_inst.arg (hval 1 26 v1 rfl rfl) h1
 obtain⟨a2,o2,m2,e2⟩:=rd_hand.arg (hval 2 29 v2 rfl rfl) h2
 refine(calls_kept (intabulateAlone_calls a0 a1 a2) (λx s h=>h) (VL.cons e0 (VL.cons e1 (VL.cons e2 VL.nil)))).mono λe W' ⟨he,hk⟩=>⟨_,he,?_⟩
 exact law_post 4 kids full (by rw[hpar];intro t ht;simp only[List.mem_cons,List.not_mem_nil,or_false]at ht;rcases ht with rfl|rfl|rfl<;>exact of_decide_eq_true (by kernel_rfl)) rfl (by kernel_rfl) (by kernel_rfl) hW' (λds' e=>by subst e;rfl) hk
theorem intabulateAlone_lifted(os:Os)(started:os.Started)(H:Type)(enc:TypeId×Value->H):
  ReturnsInHanded {} Tryz.checked os 4 .any (Rows.intabulateAloneSpec.pre6 enc Tryz.prog Tryz.f4 Rows.intabulateAloneRow.domain false) (Rows.intabulateAloneSpec.post enc Tryz.prog Tryz.f4 false true false false):=by
 refine returnsInHanded_of_change (C:=Tryz.checked) own started (by kernel_rfl) Tryz.func4
  (ChangeSpec.witness6 (enc:=enc) (C:=Tryz.checked) false ⟨#[],#[.slice none 0 0,.agg #[.slice none 0 0,.slice none 0 0],.agg #[.slice none 0 0,.slice none 0 0,.slice none 0 0,.int .i64 0,.int .i64 0,.int .i64 0,.int .i64 0,.int .i64 0,.int .i64 0,.int .i64 0]],[]⟩ 8 (by kernel_rfl) (by kernel_rfl) (by kernel_rfl) (by kernel_rfl)) ?_
 intro W base args ds gs before hval hW _ _
 exact intabulateAlone_contract H enc W base args ds gs before hval hW
theorem intabulateAlone_holds:Rows.IntabulateAloneSaid:=
 OpenClaim.holds_of_wide 4 Tryz.f4 rfl rfl rfl rfl rfl rfl rfl ⟨rfl,rfl,rfl,rfl,rfl⟩ rfl rfl rfl rfl rfl (by kernel_rfl) Tryz.func4 intabulateAlone_facts
  (of_decide_eq_true (by kernel_rfl)) (by unfold Func.isWrapper;first|(rw[if_pos (by decide+kernel)];kernel_rfl)|(rw[if_neg (by decide+kernel)];exact⟨rfl,rfl⟩))
  (λos started H enc _=>intabulateAlone_lifted os started H enc)
end Go.Proofs.YtpbahncblggodaaGreat
