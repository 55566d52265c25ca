/-
  The logic AM, W: walks in long steps: the kernel carries the code out from one parting of the ways to the next.
  Own work. No Go text.
-/
import Derived.Test.YtpbahncblggodaaGreatAmE
set_option linter.all false
namespace Go.Am
open Go.RowKit
def wAddAll(a:List Nat):List Nat->List Nat
 | []=>a
 |x::r=>bif memB x a then wAddAll a r else wAddAll (x::a) r
def wPreOf:List Oper->List (List Nat)->List (List Nat)
 | [],acc=>acc
 |o::r,acc=>wPreOf r (acc++[(direct o).foldl (λa d=>wAddAll a (preI acc d)) (wAddAll [] (direct o))])
def wLightO:Oper->Bool:=λo=>isLight o.op
def wAllocOp:Op->Bool
 |.alloc _=>true
 |_=>false
def wPickR(ok:Nat->Bool):List Nat->Option Nat
 | []=>none
 |x::r=>bif ok x then some x else wPickR ok r
def wSubB(a b:List Nat):Bool:=a.all λx=>memB x b
def wDelN(x:Nat):List Nat->List Nat
 | []=>[]
 |y::r=>bif Nat.beq x y then r else y::wDelN x r
def wOrderOf(lt al:Nat->Bool)(pre:List (List Nat)):Nat->List Nat->List Nat->List Nat
 |0,_,_=>[]
 |n+1,done,left=>
  let rd:=λj=>wSubB (preI pre j) done
  match wPickR (λj=>lt j&&rd j) left with
  |some j=>j::wOrderOf lt al pre n (j::done) (wDelN j left)
  |none=>match wPickR (λj=>rd j&&!al j) left with
   |some j=>j::wOrderOf lt al pre n (j::done) (wDelN j left)
   |none=>match wPickR rd left with
    |some j=>j::wOrderOf lt al pre n (j::done) (wDelN j left)
    |none=>[]
def wAtB(l:List Bool)(i:Nat):Bool:=l.getD i false
def wChkOf(lt sl:Nat->Bool)(pre:List Nat):List Nat->List Nat
 | []=>[]
 |x::r=>bif lt x&&!sl x&&!memB x pre then x::wChkOf lt sl pre r else wChkOf lt sl pre r
def wStepsOf(lt sl al:Nat->Bool)(pre:List (List Nat)):List Nat->List Nat->List Step
 |_,[]=>[]
 |done,j::r=>(bif lt j then .light j false else bif al j then .alloc j else .heavy j (wChkOf lt sl (preI pre j) done))::wStepsOf lt sl al pre (done++[j]) r
def wNotesOf:List Step->List Nat
 | []=>[]
 |.heavy _ c::r=>c++wNotesOf r
 |_::r=>wNotesOf r
def wMarkN(ns:List Nat):List Step->List Step
 | []=>[]
 |.light i _::r=>.light i (memB i ns)::wMarkN ns r
 |st::r=>st::wMarkN ns r
def wPlanOf(l:List Oper):List (List Nat)×List Step:=
 let pre:=wPreOf l []
 let lts:=l.map wLightO
 let sls:=l.map λo=>stateless o.op
 let als0:=l.map λo=>wAllocOp o.op
 let ns:=List.range l.length
 let hv:=ns.filter λj=>!wAtB lts j
 let al:=λj=>wAtB als0 j&&hv.any λh=>!(Nat.beq h j)&&!memB h (preI pre j)&&!memB j (preI pre h)
 let st:=wStepsOf (wAtB lts) (wAtB sls) al pre [] (wOrderOf (wAtB lts) al pre l.length [] ns)
 (pre,wMarkN (wNotesOf st) st)
inductive Oc where
 |run (c:Code)
 |out (e:Exit)
inductive Fr where
 |seq (y:Code)
 |blk (id:Nat)
 |lp (nx:Env->St->Prop) (ok:Prop)
 |sc
structure RS where
 o:Oc
 k:List Fr
 env:Env
 s:St
def LpQ(nx:Env->St->Prop)(ok:Prop)(Q:Exit->Env->St->Prop):Exit->Env->St->Prop
 |.normal,env,s=>nx env s
 |e,env,s=>ok/\Q e env s
def NoG(Q:Exit->Env->St->Prop):Exit->Env->St->Prop
 |.goto _,_,_=>False
 |e,env,s=>Q e env s
theorem NoG.to{Q:Exit->Env->St->Prop}{e:Exit}{env:Env}{s:St}(h:NoG Q e env s):Q e env s:=by
 cases e<;>first|exact h|exact h.elim
def QK(P:Program)(N:Nat)(ρ:Option Nat)(Q:Exit->Env->St->Prop):List Fr->Exit->Env->St->Prop
 | []=>Q
 |.seq y::k=>Then (AWp P N ρ y (QK P N ρ Q k)) (QK P N ρ Q k)
 |.blk id::k=>InBlock id (QK P N ρ Q k)
 |.lp nx ok::k=>LpQ nx ok (QK P N ρ Q k)
 |.sc::k=>NoG (QK P N ρ Q k)
def RW0(P:Program)(N:Nat)(ρ:Option Nat)(Q:Exit->Env->St->Prop)(r:RS):Prop:=match r.o with
 |.run c=>AWp P N ρ c (QK P N ρ Q r.k) r.env r.s
 |.out e=> ∀G w a,Now G N ρ r.env r.s a w->After G N ρ r.s w (QK P N ρ Q r.k) e a w
structure RW (P:Program) (N:Nat) (ρ:Option Nat) (Q:Exit->Env->St->Prop) (r:RS):Prop where
 v:RW0 P N ρ Q r
inductive WH where
 |r (hs:List Hint)
 |n
 |t
 |f
section
variable {P:Program} {N:Nat} {ρ:Option Nat} {Q:Exit->Env->St->Prop}
theorem After.of{G:Ghost}{s:St}{w:World}{e e':Exit}{a:Act}{Q1 Q2:Exit->Env->St->Prop}(h:After G N ρ s w Q1 e a w)(hq: ∀env s,Q1 e env s->Q2 e' env s):After G N ρ s w Q2 e' a w:=
 let⟨G',env',s',n',x',q'⟩:=h;⟨G',env',s',n',x',hq _ _ q'⟩
def See(N:Nat)(ρ:Option Nat)(base:Nat)(E2:Env)(S2:St)(env:Env)(s:St):Prop:=
 ∀{G0:Ghost}{s0:St}{w0:World}{G:Ghost}{w:World}{a:Act},s0.cnt<=base->Sim G0 s0 w0->Ext G0 s0 w0 G s w->Now G N ρ env s a w-> ∃G',Now G' N ρ E2 S2 a w/\Ext G0 s0 w0 G' S2 w
theorem See.refl{base:Nat}{env:Env}{s:St}:See N ρ base env s env s:=λ_ _ hx hn=>⟨_,hn,hx⟩
theorem see_into{base:Nat}{π:Nat->Nat}{E2 env:Env}{S2 s:St}(hρ: ∀id,ρ=some id->id<base)(h:Into base π E2 S2 env s):See N ρ base E2 S2 env s:=
 λhb h0 hx hn=>⟨_,h.now hρ hn,h.st.ext h0 hx hn.sim hb⟩
theorem see_drop{base:Nat}{E2 env E3:Env}{S2 s S3:St}(he: ∀t x,eget E2 t=some x->eget env t=some x)(hs:LeS S2 s)(h:See N ρ base E3 S3 E2 S2):See N ρ base E3 S3 env s:=
 λhb h0 hx hn=>h hb h0 (hx.trans h0 (Ext.drop hs.heap hs.cnt hs.dfr)) ⟨hn.sim.drop hs.heap hs.cnt,hn.env.sub he,hn.size,hn.defs.drop hs.dfr,hn.known⟩
def Nx(N:Nat)(ρ:Option Nat){σ τ:Type}(base:Nat)(E:σ->Env)(S:σ->St)(out:σ⊕τ):Env->St->Prop:=λenv' s'=> ∃st',out=.inl st'/\See N ρ base (E st') (S st') env' s'
theorem rw_next{σ τ:Type}{base:Nat}{E:σ->Env}{S:σ->St}{out:σ⊕τ}{ok:Prop}{k:List Fr}{st':σ}{env:Env}{s:St}(ho:out=.inl st')(h:See N ρ base (E st') (S st') env s):RW0 P N ρ Q ⟨.out .normal,.lp (Nx N ρ base E S out) ok::k,env,s⟩:=
 λ_ _ _ hn=>hn.after ⟨st',ho,h⟩
theorem rw_loop{x:Code}{k:List Fr}{env:Env}{s:St}{σ τ:Type}(body:σ->Option (σ⊕τ)){n:Nat}{st0:σ}{res:τ}(hl:loopN body n st0=some res)(E:σ->Env)(S:σ->St)
  (h0:See N ρ s.cnt (E st0) (S st0) env s)
  (round: ∀st out,body st=some out->(∀r,out=.inr r->r=res)->RW0 P N ρ Q ⟨.run x,.lp (Nx N ρ s.cnt E S out) (∃r,out=.inr r)::k,E st,S st⟩):RW0 P N ρ Q ⟨.run (.loop x),k,env,s⟩:=λG w a hn=>by
 obtain⟨G1,n1,x1⟩:=h0 (Nat.le_refl _) hn.sim (.refl G s w) hn
 refine wpIn_loopK (λk a' w'=> ∃G' st,loopN body k st=some res/\Now G' N ρ (E st) (S st) a' w'/\Ext G s w G' (S st) w') ?_ ⟨_,st0,hl,n1,x1⟩
 rintro k a' w' ⟨G',st,hk,n',x'⟩
 cases k with
 |zero=>simp[loopN]at hk
 |succ k=>
  simp only[loopN]at hk
  cases hb:body st with
  |none=>simp[hb]at hk
  |some out=>
   simp only[hb]at hk
   have:=round st out hb (λr e=>by subst e;exact Option.some.inj hk) G' w' a' n'
   rw[conc_le x'.le hn.known]at this
   refine wpIn_mono this ?_
   rintro e a2 w2 ⟨G2,env2,s2,n2,x2,q2⟩
   have x3:=x'.trans hn.sim x2
   cases e with
   |normal=>
    obtain⟨st',ho,hi⟩:=q2
    subst ho
    obtain⟨G3,n3,x4⟩:=hi (Nat.le_refl _) hn.sim x3 n2
    exact⟨k,Nat.lt_succ_self _,_,st',hk,n3,x4⟩
   |exit id=>exact⟨G2,env2,s2,n2,x3,q2.2⟩
   |goto l=>exact⟨G2,env2,s2,n2,x3,q2.2⟩
   |ret=>exact⟨G2,env2,s2,n2,x3,q2.2⟩
   |panic ch=>exact⟨G2,env2,s2,n2,x3,q2.2⟩
   |outgrown=>exact⟨G2,env2,s2,n2,x3,q2.2⟩
theorem rw_see{o:Oc}{k:List Fr}{env E2:Env}{s S2:St}{base:Nat}(hb:s.cnt<=base)(hs:See N ρ base E2 S2 env s)(h:RW0 P N ρ Q ⟨o,k,E2,S2⟩):RW0 P N ρ Q ⟨o,k,env,s⟩:=by
 cases o with
 |run c=>
  intro G w a hn
  obtain⟨G',n',x'⟩:=hs hb hn.sim (.refl G s w) hn
  exact AWp.later h hn.sim hn.known x' n'
 |out e=>
  intro G w a hn
  obtain⟨G',n',x'⟩:=hs hb hn.sim (.refl G s w) hn
  obtain⟨G2,env2,s2,n2,x2,q2⟩:=h G' w a n'
  exact⟨G2,env2,s2,n2,x'.trans hn.sim x2,q2⟩
structure IdOk (base:Nat) (E:Env) (S:St):Prop where
 env: ∀t x,eget E t=some x->Co (okId base S.heap) id x x
 heap: ∀i b,eget S.heap i=some b->CoB (okId base S.heap) id b b
 lt: ∀i b,eget S.heap i=some b->i<S.cnt
 cb:base<=S.cnt
 dfr: ∀i,eget S.heap i=some .dfr->i<base
structure LowSub (E2:Env) (S2:St) (env:Env) (s:St):Prop where
 env: ∀t x,eget E2 t=some x->eget env t=some x
 heap: ∀i b,eget S2.heap i=some b->eget s.heap i=some b
 dfr: ∀i,eget s.heap i=some .dfr->eget S2.heap i=some .dfr
structure LK (P:Program) (N:Nat) (ρ:Option Nat) (Q:Exit->Env->St->Prop) {σ τ:Type} (base:Nat) (E:σ->Env) (S:σ->St) (out:σ⊕τ) (k:List Fr):Prop where
 n: ∀st',out=.inl st'->RW P N ρ Q ⟨.out .normal,.lp (Nx N ρ base E S out) (∃r,out=.inr r)::k,E st',S st'⟩
 i: ∀st' env s,out=.inl st'->See N ρ base (E st') (S st') env s->RW P N ρ Q ⟨.out .normal,.lp (Nx N ρ base E S out) (∃r,out=.inr r)::k,env,s⟩
 o: ∀r,out=.inr r-> ∃r,out=.inr r
structure LKc (P:Program) (N:Nat) (ρ:Option Nat) (Q:Exit->Env->St->Prop) {σ τ:Type} (base:Nat) (E:σ->Env) (S:σ->St) (out:σ⊕τ) (k:List Fr):Prop extends LK P N ρ Q base E S out k where
 d: ∀st' env s,out=.inl st'->LowSub (E st') (S st') env s->RW P N ρ Q ⟨.out .normal,.lp (Nx N ρ base E S out) (∃r,out=.inr r)::k,env,s⟩
end
end Go.Am
