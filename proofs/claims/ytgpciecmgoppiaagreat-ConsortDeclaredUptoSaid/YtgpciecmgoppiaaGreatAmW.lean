/- The logic AM, W: walks in long steps: the kernel carries the code out from one parting of the ways to the next. -/
import Derived.Test.YtgpciecmgoppiaaGreatAmE
set_option linter.all false
namespace Go.Am
open Go.RowKit
def xq(a:List Nat):List Nat->List Nat
 | []=>a
 |x::r=>bif jH x a then xq a r else xq (x::a) r
def M8:List Oper->List (List Nat)->List (List Nat)
 | [],acc=>acc
 |o::r,acc=>M8 r (acc++[(direct o).foldl (λa d=>xq a (iN acc d)) (xq [] (direct o))])
def QA:Oper->Bool:=λo=>eY o.op
def M9:Op->Bool
 |.alloc _=>true
 |_=>false
def Cw(ok:Nat->Bool):List Nat->Option Nat
 | []=>none
 |x::r=>bif ok x then some x else Cw ok r
def Xo(a b:List Nat):Bool:=a.all λx=>jH x b
def II(x:Nat):List Nat->List Nat
 | []=>[]
 |y::r=>bif Nat.beq x y then r else y::II x r
def ud(lt al:Nat->Bool)(pre:List (List Nat)):Nat->List Nat->List Nat->List Nat
 |0,_,_=>[]
 |n+1,done,left=>
  let rd:=λj=>Xo (iN pre j) done
  match Cw (λj=>lt j&&rd j) left with
  |some j=>j::ud lt al pre n (j::done) (II j left)
  |none=>match Cw (λj=>rd j&&!al j) left with
   |some j=>j::ud lt al pre n (j::done) (II j left)
   |none=>match Cw rd left with
    |some j=>j::ud lt al pre n (j::done) (II j left)
    |none=>[]
def Na(l:List Bool)(i:Nat):Bool:=l.getD i false
def GY(lt sl:Nat->Bool)(pre:List Nat):List Nat->List Nat
 | []=>[]
 |x::r=>bif lt x&&!sl x&&!jH x pre then x::GY lt sl pre r else GY lt sl pre r
def Ek(lt sl al:Nat->Bool)(pre:List (List Nat)):List Nat->List Nat->List Step
 |_,[]=>[]
 |done,j::r=>(bif lt j then .gP j false else bif al j then .alloc j else .gz j (GY lt sl (iN pre j) done))::Ek lt sl al pre (done++[j]) r
def yK:List Step->List Nat
 | []=>[]
 |.gz _ c::r=>c++yK r
 |_::r=>yK r
def GZ(ns:List Nat):List Step->List Step
 | []=>[]
 |.gP i _::r=>.gP i (jH i ns)::GZ ns r
 |st::r=>st::GZ ns r
def IJ(l:List Oper):List (List Nat)×List Step:=
 let pre:=M8 l [];let lts:=l.map QA;let sls:=l.map λo=>kx o.op;let aaI:=l.map λo=>M9 o.op;let ns:=List.range l.length;let hv:=ns.filter λj=>!Na lts j;let al:=λj=>Na aaI j&&hv.any λh=>!(Nat.beq h j)&&!jH h (iN pre j)&&!jH j (iN pre h);let st:=Ek (Na lts) (Na sls) al pre [] (ud (Na lts) al pre l.length [] ns)
 (pre,GZ (yK st) st)
inductive Oc where
 |run (c:Code)
 |out (e:Exit)
inductive Fr where
 |seq (y:Code)
 |blk (id:Nat)
 |lp (nx:Env->St->Prop) (ok:Prop)
 |sc
structure RS where
 o:Oc
 k:List Fr
 bf:Env
 s:St
def LpQ(nx:Env->St->Prop)(ok:Prop)(Q:Exit->Env->St->Prop):Exit->Env->St->Prop
 |.normal,bf,s=>nx bf s
 |e,bf,s=>ok/\Q e bf s
def Zi(Q:Exit->Env->St->Prop):Exit->Env->St->Prop
 |.goto _,_,_=>False
 |e,bf,s=>Q e bf s
theorem Zi.to{Q:Exit->Env->St->Prop}{e:Exit}{bf:Env}{s:St}(h:Zi Q e bf s):Q e bf s:=by
 cases e<;>first|exact h|exact h.elim
def QK(P:Program)(N:Nat)(ρ:Option Nat)(Q:Exit->Env->St->Prop):List Fr->Exit->Env->St->Prop
 | []=>Q
 |.seq y::k=>J6 (gY P N ρ y (QK P N ρ Q k)) (QK P N ρ Q k)
 |.blk id::k=>oW id (QK P N ρ Q k)
 |.lp nx ok::k=>LpQ nx ok (QK P N ρ Q k)
 |.sc::k=>Zi (QK P N ρ Q k)
def vE(P:Program)(N:Nat)(ρ:Option Nat)(Q:Exit->Env->St->Prop)(r:RS):Prop:=match r.o with
 |.run c=>gY P N ρ c (QK P N ρ Q r.k) r.bf r.s
 |.out e=> ∀G w a,wj G N ρ r.bf r.s a w->im G N ρ r.s w (QK P N ρ Q r.k) e a w
section
variable {P:Program} {N:Nat} {ρ:Option Nat} {Q:Exit->Env->St->Prop}
theorem im.of{G:bS}{s:St}{w:World}{e e':Exit}{a:Act}{Q1 Q2:Exit->Env->St->Prop}(h:im G N ρ s w Q1 e a w)(hq: ∀bf s,Q1 e bf s->Q2 e' bf s):im G N ρ s w Q2 e' a w:=
 let⟨G',env',s',n',x',q'⟩:=h;⟨G',env',s',n',x',hq _ _ q'⟩
def G7(N:Nat)(ρ:Option Nat)(bG:Nat)(E2:Env)(S2:St)(bf:Env)(s:St):Prop:=
 ∀{G0:bS}{s0:St}{w0:World}{G:bS}{w:World}{a:Act},s0.bN<=bG->eG G0 s0 w0->Ext G0 s0 w0 G s w->wj G N ρ bf s a w-> ∃G',wj G' N ρ E2 S2 a w/\Ext G0 s0 w0 G' S2 w
theorem G7.refl{bG:Nat}{bf:Env}{s:St}:G7 N ρ bG bf s bf s:=λ_ _ hx hn=>⟨_,hn,hx⟩
theorem qB{bG:Nat}{π:Nat->Nat}{E2 bf:Env}{S2 s:St}(AE: ∀id,ρ=some id->id<bG)(h:D9 bG π E2 S2 bf s):G7 N ρ bG E2 S2 bf s:=
 λhb h0 hx hn=>⟨_,h.now AE hn,h.st.ext h0 hx hn.iB hb⟩
theorem Nb{bG:Nat}{E2 bf E3:Env}{S2 s S3:St}(he: ∀t x,bn E2 t=some x->bn bf t=some x)(hs:WR S2 s)(h:G7 N ρ bG E3 S3 E2 S2):G7 N ρ bG E3 S3 bf s:=
 λhb h0 hx hn=>h hb h0 (hx.trans h0 (Ext.drop hs.heap hs.bN hs.gq)) ⟨hn.iB.drop hs.heap hs.bN,hn.bf.sub he,hn.size,hn.mr.drop hs.gq,hn.known⟩
def Nx(N:Nat)(ρ:Option Nat){σ τ:Type}(bG:Nat)(E:σ->Env)(S:σ->St)(out:σ⊕τ):Env->St->Prop:=λenv' s'=> ∃Ao,out=.inl Ao/\G7 N ρ bG (E Ao) (S Ao) env' s'
theorem QB{σ τ:Type}{bG:Nat}{E:σ->Env}{S:σ->St}{out:σ⊕τ}{ok:Prop}{k:List Fr}{Ao:σ}{bf:Env}{s:St}(ho:out=.inl Ao)(h:G7 N ρ bG (E Ao) (S Ao) bf s):vE P N ρ Q ⟨.out .normal,.lp (Nx N ρ bG E S out) ok::k,bf,s⟩:=
 λ_ _ _ hn=>hn.after ⟨Ao,ho,h⟩
theorem QC{x:Code}{k:List Fr}{bf:Env}{s:St}{σ τ:Type}(body:σ->Option (σ⊕τ)){n:Nat}{LO:σ}{LP:τ}(hl:bO body n LO=some LP)(E:σ->Env)(S:σ->St)
  (h0:G7 N ρ s.bN (E LO) (S LO) bf s)
  (round: ∀st out,body st=some out->(∀r,out=.inr r->r=LP)->vE P N ρ Q ⟨.run x,.lp (Nx N ρ s.bN E S out) (∃r,out=.inr r)::k,E st,S st⟩):vE P N ρ Q ⟨.run (.loop x),k,bf,s⟩:=λG w a hn=>by
 obtain⟨G1,n1,x1⟩:=h0 (fw _) hn.iB (.refl G s w) hn;refine Gk (λk a' w'=> ∃G' st,bO body k st=some LP/\wj G' N ρ (E st) (S st) a' w'/\Ext G s w G' (S st) w') ?_ ⟨_,LO,hl,n1,x1⟩;rintro k a' w' ⟨G',st,hk,n',x'⟩;cases k with
 |zero=>simp[bO]at hk
 |succ k=>
  simp only[bO]at hk;cases hb:body st with
  |none=>grind
  |some out=>
   simp only[hb]at hk;have:=round st out hb (λr e=>by grind) G' w' a' n';rw[Ii x'.le hn.known]at this;refine wpIn_mono this ?_;rintro e a2 w2 ⟨G2,xY,s2,n2,x2,q2⟩;have x3:=x'.trans hn.iB x2;cases e with
   |normal=>
    obtain⟨Ao,ho,hi⟩:=q2;subst ho;obtain⟨G3,n3,x4⟩:=hi (fw _) hn.iB x3 n2;exact⟨k,Wn _,_,Ao,hk,n3,x4⟩
   |exit id=>exact⟨G2,xY,s2,n2,x3,q2.2⟩
   |goto l=>exact⟨G2,xY,s2,n2,x3,q2.2⟩
   |ret=>exact⟨G2,xY,s2,n2,x3,q2.2⟩
   |panic ch=>exact⟨G2,xY,s2,n2,x3,q2.2⟩
   |outgrown=>exact⟨G2,xY,s2,n2,x3,q2.2⟩
theorem qC{o:Oc}{k:List Fr}{bf E2:Env}{s S2:St}{bG:Nat}(hb:s.bN<=bG)(hs:G7 N ρ bG E2 S2 bf s)(h:vE P N ρ Q ⟨o,k,E2,S2⟩):vE P N ρ Q ⟨o,k,bf,s⟩:=by
 cases o with
 |run c=>
  intro G w a hn;obtain⟨G',n',x'⟩:=hs hb hn.iB (.refl G s w) hn;exact gY.later h hn.iB hn.known x' n'
 |out e=>
  intro G w a hn;obtain⟨G',n',x'⟩:=hs hb hn.iB (.refl G s w) hn;obtain⟨G2,xY,s2,n2,x2,q2⟩:=h G' w a n';exact⟨G2,xY,s2,n2,x'.trans hn.iB x2,q2⟩
theorem zI{o:Oc}{k:List Fr}{bf:Env}{s:St}(bG:Nat)(L:List (Nat×Nat))(ks:List Nat)(ys:List AV){xs:List AV}{S2:St}(h:vE P N ρ Q ⟨o,k,lu ks xs,S2⟩)(AE: ∀id,ρ=some id->id<bG)(hc:qw (fU bG S2.heap) (pi L) xs ys)(hh:LN (fU bG S2.heap) (pi L) bG s S2.heap)
  (hs:Nat.ble s.bN bG=true:=by kernel_rfl) (hb:Eh bG L S2 s=true:=by kernel_rfl) (he:look bf ks=some ys:=by kernel_rfl):vE P N ρ Q ⟨o,k,bf,s⟩:=
 qC (vd hs) (qB AE (M4 hb he hc hh)) h
end
end Go.Am
