/- The logic AM, W: walks in long steps: the kernel carries the code out from one parting of the ways to the next. -/
import Derived.Test.YtfdnjgoegamonaaGreatDoorAmE
set_option linter.all false
namespace Go.Am
open Go.RowKit
def xK(a:List Nat):List Nat->List Nat
 | []=>a
 |x::r=>bif jG x a then xK a r else xK (x::a) r
def My:List Oper->List (List Nat)->List (List Nat)
 | [],acc=>acc
 |o::r,acc=>My r (acc++[(direct o).foldl (λa d=>xK a (iS acc d)) (xK [] (direct o))])
def P3:Oper->Bool:=λo=>gu o.op
def Mz:Op->Bool
 |.alloc _=>true
 |_=>false
def CK(ok:Nat->Bool):List Nat->Option Nat
 | []=>none
 |x::r=>bif ok x then some x else CK ok r
def W0(a b:List Nat):Bool:=a.all λx=>jG x b
def IF(x:Nat):List Nat->List Nat
 | []=>[]
 |y::r=>bif Nat.beq x y then r else y::IF x r
def uq(lt al:Nat->Bool)(pre:List (List Nat)):Nat->List Nat->List Nat->List Nat
 |0,_,_=>[]
 |n+1,done,left=>
  let rd:=λj=>W0 (iS pre j) done
  match CK (λj=>lt j&&rd j) left with
  |some j=>j::uq lt al pre n (j::done) (IF j left)
  |none=>match CK (λj=>rd j&&!al j) left with
   |some j=>j::uq lt al pre n (j::done) (IF j left)
   |none=>match CK rd left with
    |some j=>j::uq lt al pre n (j::done) (IF j left)
    |none=>[]
def MA(l:List Bool)(i:Nat):Bool:=l.getD i false
def GZ(lt sl:Nat->Bool)(pre:List Nat):List Nat->List Nat
 | []=>[]
 |x::r=>bif lt x&&!sl x&&!jG x pre then x::GZ lt sl pre r else GZ lt sl pre r
def Ez(lt sl al:Nat->Bool)(pre:List (List Nat)):List Nat->List Nat->List Step
 |_,[]=>[]
 |done,j::r=>(bif lt j then .iQ j false else bif al j then .alloc j else .iI j (GZ lt sl (iS pre j) done))::Ez lt sl al pre (done++[j]) r
def yS:List Step->List Nat
 | []=>[]
 |.iI _ c::r=>c++yS r
 |_::r=>yS r
def G7(ns:List Nat):List Step->List Step
 | []=>[]
 |.iQ i _::r=>.iQ i (jG i ns)::G7 ns r
 |st::r=>st::G7 ns r
def IG(l:List Oper):List (List Nat)×List Step:=
 let pre:=My l [];let lts:=l.map P3;let sls:=l.map λo=>kA o.op;let aat:=l.map λo=>Mz o.op;let ns:=List.range l.length;let hv:=ns.filter λj=>!MA lts j;let al:=λj=>MA aat j&&hv.any λh=>!(Nat.beq h j)&&!jG h (iS pre j)&&!jG j (iS pre h);let st:=Ez (MA lts) (MA sls) al pre [] (uq (MA lts) al pre l.length [] ns)
 (pre,G7 (yS st) st)
inductive Oc where
 |run (c:Code)
 |out (e:Exit)
inductive Fr where
 |seq (y:Code)
 |blk (id:Nat)
 |lp (nx:Env->St->Prop) (ok:Prop)
 |sc
structure RS where
 o:Oc
 k:List Fr
 bX:Env
 s:St
def LpQ(nx:Env->St->Prop)(ok:Prop)(Q:Exit->Env->St->Prop):Exit->Env->St->Prop
 |.normal,bX,s=>nx bX s
 |e,bX,s=>ok/\Q e bX s
def YL(Q:Exit->Env->St->Prop):Exit->Env->St->Prop
 |.goto _,_,_=>False
 |e,bX,s=>Q e bX s
theorem YL.to{Q:Exit->Env->St->Prop}{e:Exit}{bX:Env}{s:St}(h:YL Q e bX s):Q e bX s:=by
 cases e<;>first|exact h|exact h.elim
def QK(P:Program)(N:Nat)(ρ:Option Nat)(Q:Exit->Env->St->Prop):List Fr->Exit->Env->St->Prop
 | []=>Q
 |.seq y::k=>SE (mu P N ρ y (QK P N ρ Q k)) (QK P N ρ Q k)
 |.blk id::k=>pF id (QK P N ρ Q k)
 |.lp nx ok::k=>LpQ nx ok (QK P N ρ Q k)
 |.sc::k=>YL (QK P N ρ Q k)
def xp(P:Program)(N:Nat)(ρ:Option Nat)(Q:Exit->Env->St->Prop)(r:RS):Prop:=match r.o with
 |.run c=>mu P N ρ c (QK P N ρ Q r.k) r.bX r.s
 |.out e=> ∀G w a,xF G N ρ r.bX r.s a w->iy G N ρ r.s w (QK P N ρ Q r.k) e a w
section
variable {P:Program} {N:Nat} {ρ:Option Nat} {Q:Exit->Env->St->Prop}
theorem iy.of{G:cx}{s:St}{w:World}{e e':Exit}{a:Act}{Q1 Q2:Exit->Env->St->Prop}(h:iy G N ρ s w Q1 e a w)(hq: ∀bX s,Q1 e bX s->Q2 e' bX s):iy G N ρ s w Q2 e' a w:=
 let⟨G',env',s',n',x',q'⟩:=h;⟨G',env',s',n',x',hq _ _ q'⟩
def G8(N:Nat)(ρ:Option Nat)(cn:Nat)(E2:Env)(S2:St)(bX:Env)(s:St):Prop:=
 ∀{G0:cx}{s0:St}{w0:World}{G:cx}{w:World}{a:Act},s0.cr<=cn->eQ G0 s0 w0->Ext G0 s0 w0 G s w->xF G N ρ bX s a w-> ∃G',xF G' N ρ E2 S2 a w/\Ext G0 s0 w0 G' S2 w
theorem G8.refl{cn:Nat}{bX:Env}{s:St}:G8 N ρ cn bX s bX s:=λ_ _ hx hn=>⟨_,hn,hx⟩
theorem ur{cn:Nat}{π:Nat->Nat}{E2 bX:Env}{S2 s:St}(GQ: ∀id,ρ=some id->id<cn)(h:Kk cn π E2 S2 bX s):G8 N ρ cn E2 S2 bX s:=
 λhb h0 hx hn=>⟨_,h.now GQ hn,h.st.ext h0 hx hn.jd hb⟩
theorem MB{cn:Nat}{E2 bX E3:Env}{S2 s S3:St}(he: ∀t x,bJ E2 t=some x->bJ bX t=some x)(hs:LeS S2 s)(h:G8 N ρ cn E3 S3 E2 S2):G8 N ρ cn E3 S3 bX s:=
 λhb h0 hx hn=>h hb h0 (hx.trans h0 (Ext.drop hs.heap hs.cr hs.gK)) ⟨hn.jd.drop hs.heap hs.cr,hn.bX.sub he,hn.size,hn.mM.drop hs.gK,hn.known⟩
def Nx(N:Nat)(ρ:Option Nat){σ τ:Type}(cn:Nat)(E:σ->Env)(S:σ->St)(out:σ⊕τ):Env->St->Prop:=λenv' s'=> ∃AK,out=.inl AK/\G8 N ρ cn (E AK) (S AK) env' s'
theorem P4{σ τ:Type}{cn:Nat}{E:σ->Env}{S:σ->St}{out:σ⊕τ}{ok:Prop}{k:List Fr}{AK:σ}{bX:Env}{s:St}(ho:out=.inl AK)(h:G8 N ρ cn (E AK) (S AK) bX s):xp P N ρ Q ⟨.out .normal,.lp (Nx N ρ cn E S out) ok::k,bX,s⟩:=
 λ_ _ _ hn=>hn.after ⟨AK,ho,h⟩
theorem P5{x:Code}{k:List Fr}{bX:Env}{s:St}{σ τ:Type}(body:σ->Option (σ⊕τ)){n:Nat}{Ln:σ}{Lo:τ}(hl:cA body n Ln=some Lo)(E:σ->Env)(S:σ->St)
  (h0:G8 N ρ s.cr (E Ln) (S Ln) bX s)
  (round: ∀st out,body st=some out->(∀r,out=.inr r->r=Lo)->xp P N ρ Q ⟨.run x,.lp (Nx N ρ s.cr E S out) (∃r,out=.inr r)::k,E st,S st⟩):xp P N ρ Q ⟨.run (.loop x),k,bX,s⟩:=λG w a hn=>by
 obtain⟨G1,n1,x1⟩:=h0 (eD _) hn.jd (.refl G s w) hn;refine GA (λk a' w'=> ∃G' st,cA body k st=some Lo/\xF G' N ρ (E st) (S st) a' w'/\Ext G s w G' (S st) w') ?_ ⟨_,Ln,hl,n1,x1⟩;rintro k a' w' ⟨G',st,hk,n',x'⟩;cases k with
 |zero=>simp[cA]at hk
 |succ k=>
  simp only[cA]at hk;cases hb:body st with
  |none=>simp[hb]at hk
  |some out=>
   simp only[hb]at hk;have:=round st out hb (λr e=>by subst e;exact Option.some.inj hk) G' w' a' n';rw[Ik x'.le hn.known]at this;refine wpIn_mono this ?_;rintro e a2 w2 ⟨G2,vy,s2,n2,x2,q2⟩;have x3:=x'.trans hn.jd x2;cases e with
   |normal=>
    obtain⟨AK,ho,hi⟩:=q2;subst ho;obtain⟨G3,n3,x4⟩:=hi (eD _) hn.jd x3 n2;exact⟨k,Vc _,_,AK,hk,n3,x4⟩
   |exit id=>exact⟨G2,vy,s2,n2,x3,q2.2⟩
   |goto l=>exact⟨G2,vy,s2,n2,x3,q2.2⟩
   |ret=>exact⟨G2,vy,s2,n2,x3,q2.2⟩
   |panic ch=>exact⟨G2,vy,s2,n2,x3,q2.2⟩
   |outgrown=>exact⟨G2,vy,s2,n2,x3,q2.2⟩
theorem tg{o:Oc}{k:List Fr}{bX E2:Env}{s S2:St}{cn:Nat}(hb:s.cr<=cn)(hs:G8 N ρ cn E2 S2 bX s)(h:xp P N ρ Q ⟨o,k,E2,S2⟩):xp P N ρ Q ⟨o,k,bX,s⟩:=by
 cases o with
 |run c=>
  intro G w a hn;obtain⟨G',n',x'⟩:=hs hb hn.jd (.refl G s w) hn;exact mu.later h hn.jd hn.known x' n'
 |out e=>
  intro G w a hn;obtain⟨G',n',x'⟩:=hs hb hn.jd (.refl G s w) hn;obtain⟨G2,vy,s2,n2,x2,q2⟩:=h G' w a n';exact⟨G2,vy,s2,n2,x'.trans hn.jd x2,q2⟩
end
end Go.Am
