/- The logic AM, W: walks in long steps: the kernel carries the code out from one parting of the ways to the next. -/
import Derived.Test.YtpbahncblggodaaGreatAmE
set_option linter.all false
namespace Go.Am
open Go.RowKit
def xu(a:List Nat):List Nat->List Nat
 | []=>a
 |x::r=>bif jE x a then xu a r else xu (x::a) r
def MM:List Oper->List (List Nat)->List (List Nat)
 | [],acc=>acc
 |o::r,acc=>MM r (acc++[(direct o).foldl (λa d=>xu a (iG acc d)) (xu [] (direct o))])
def PG:Oper->Bool:=λo=>fV o.op
def MN:Op->Bool
 |.alloc _=>true
 |_=>false
def CE(ok:Nat->Bool):List Nat->Option Nat
 | []=>none
 |x::r=>bif ok x then some x else CE ok r
def Wn(a b:List Nat):Bool:=a.all λx=>jE x b
def Il(x:Nat):List Nat->List Nat
 | []=>[]
 |y::r=>bif Nat.beq x y then r else y::Il x r
def ux(lt al:Nat->Bool)(pre:List (List Nat)):Nat->List Nat->List Nat->List Nat
 |0,_,_=>[]
 |n+1,done,left=>
  let rd:=λj=>Wn (iG pre j) done
  match CE (λj=>lt j&&rd j) left with
  |some j=>j::ux lt al pre n (j::done) (Il j left)
  |none=>match CE (λj=>rd j&&!al j) left with
   |some j=>j::ux lt al pre n (j::done) (Il j left)
   |none=>match CE rd left with
    |some j=>j::ux lt al pre n (j::done) (Il j left)
    |none=>[]
def MO(l:List Bool)(i:Nat):Bool:=l.getD i false
def GI(lt sl:Nat->Bool)(pre:List Nat):List Nat->List Nat
 | []=>[]
 |x::r=>bif lt x&&!sl x&&!jE x pre then x::GI lt sl pre r else GI lt sl pre r
def Em(lt sl al:Nat->Bool)(pre:List (List Nat)):List Nat->List Nat->List Step
 |_,[]=>[]
 |done,j::r=>(bif lt j then .iD j false else bif al j then .alloc j else .ir j (GI lt sl (iG pre j) done))::Em lt sl al pre (done++[j]) r
def yX:List Step->List Nat
 | []=>[]
 |.ir _ c::r=>c++yX r
 |_::r=>yX r
def GJ(ns:List Nat):List Step->List Step
 | []=>[]
 |.iD i _::r=>.iD i (jE i ns)::GJ ns r
 |st::r=>st::GJ ns r
def Ik(l:List Oper):List (List Nat)×List Step:=
 let pre:=MM l []
 let lts:=l.map PG
 let sls:=l.map λo=>kh o.op
 let aae:=l.map λo=>MN o.op
 let ns:=List.range l.length
 let hv:=ns.filter λj=>!MO lts j
 let al:=λj=>MO aae j&&hv.any λh=>!(Nat.beq h j)&&!jE h (iG pre j)&&!jE j (iG pre h)
 let st:=Em (MO lts) (MO sls) al pre [] (ux (MO lts) al pre l.length [] ns)
 (pre,GJ (yX st) st)
inductive Oc where
 |run (c:Code)
 |out (e:Exit)
inductive Fr where
 |seq (y:Code)
 |blk (id:Nat)
 |lp (nx:Env->St->Prop) (ok:Prop)
 |sc
structure RS where
 o:Oc
 k:List Fr
 bI:Env
 s:St
def LpQ(nx:Env->St->Prop)(ok:Prop)(Q:Exit->Env->St->Prop):Exit->Env->St->Prop
 |.normal,bI,s=>nx bI s
 |e,bI,s=>ok/\Q e bI s
def Ya(Q:Exit->Env->St->Prop):Exit->Env->St->Prop
 |.goto _,_,_=>False
 |e,bI,s=>Q e bI s
theorem Ya.to{Q:Exit->Env->St->Prop}{e:Exit}{bI:Env}{s:St}(h:Ya Q e bI s):Q e bI s:=by
 cases e<;>first|exact h|exact h.elim
def QK(P:Program)(N:Nat)(ρ:Option Nat)(Q:Exit->Env->St->Prop):List Fr->Exit->Env->St->Prop
 | []=>Q
 |.seq y::k=>RV (lT P N ρ y (QK P N ρ Q k)) (QK P N ρ Q k)
 |.blk id::k=>oN id (QK P N ρ Q k)
 |.lp nx ok::k=>LpQ nx ok (QK P N ρ Q k)
 |.sc::k=>Ya (QK P N ρ Q k)
def wW(P:Program)(N:Nat)(ρ:Option Nat)(Q:Exit->Env->St->Prop)(r:RS):Prop:=match r.o with
 |.run c=>lT P N ρ c (QK P N ρ Q r.k) r.bI r.s
 |.out e=> ∀G w a,xe G N ρ r.bI r.s a w->ia G N ρ r.s w (QK P N ρ Q r.k) e a w
section
variable {P:Program} {N:Nat} {ρ:Option Nat} {Q:Exit->Env->St->Prop}
theorem ia.of{G:cg}{s:St}{w:World}{e e':Exit}{a:Act}{Q1 Q2:Exit->Env->St->Prop}(h:ia G N ρ s w Q1 e a w)(hq: ∀bI s,Q1 e bI s->Q2 e' bI s):ia G N ρ s w Q2 e' a w:=
 let⟨G',env',s',n',x',q'⟩:=h;⟨G',env',s',n',x',hq _ _ q'⟩
def Gm(N:Nat)(ρ:Option Nat)(bR:Nat)(E2:Env)(S2:St)(bI:Env)(s:St):Prop:=
 ∀{G0:cg}{s0:St}{w0:World}{G:cg}{w:World}{a:Act},s0.bT<=bR->eL G0 s0 w0->Ext G0 s0 w0 G s w->xe G N ρ bI s a w-> ∃G',xe G' N ρ E2 S2 a w/\Ext G0 s0 w0 G' S2 w
theorem Gm.refl{bR:Nat}{bI:Env}{s:St}:Gm N ρ bR bI s bI s:=λ_ _ hx hn=>⟨_,hn,hx⟩
theorem uy{bR:Nat}{π:Nat->Nat}{E2 bI:Env}{S2 s:St}(Gd: ∀id,ρ=some id->id<bR)(h:JL bR π E2 S2 bI s):Gm N ρ bR E2 S2 bI s:=
 λhb h0 hx hn=>⟨_,h.now Gd hn,h.st.ext h0 hx hn.iQ hb⟩
theorem Mg{bR:Nat}{E2 bI E3:Env}{S2 s S3:St}(he: ∀t x,bH E2 t=some x->bH bI t=some x)(hs:ZE S2 s)(h:Gm N ρ bR E3 S3 E2 S2):Gm N ρ bR E3 S3 bI s:=
 λhb h0 hx hn=>h hb h0 (hx.trans h0 (Ext.drop hs.heap hs.bT hs.gr)) ⟨hn.iQ.drop hs.heap hs.bT,hn.bI.sub he,hn.size,hn.mg.drop hs.gr,hn.known⟩
def Nx(N:Nat)(ρ:Option Nat){σ τ:Type}(bR:Nat)(E:σ->Env)(S:σ->St)(out:σ⊕τ):Env->St->Prop:=λenv' s'=> ∃zZ,out=.inl zZ/\Gm N ρ bR (E zZ) (S zZ) env' s'
theorem PH{σ τ:Type}{bR:Nat}{E:σ->Env}{S:σ->St}{out:σ⊕τ}{ok:Prop}{k:List Fr}{zZ:σ}{bI:Env}{s:St}(ho:out=.inl zZ)(h:Gm N ρ bR (E zZ) (S zZ) bI s):wW P N ρ Q ⟨.out .normal,.lp (Nx N ρ bR E S out) ok::k,bI,s⟩:=
 λ_ _ _ hn=>hn.after ⟨zZ,ho,h⟩
theorem PI{x:Code}{k:List Fr}{bI:Env}{s:St}{σ τ:Type}(body:σ->Option (σ⊕τ)){n:Nat}{KG:σ}{KK:τ}(hl:bZ body n KG=some KK)(E:σ->Env)(S:σ->St)
  (h0:Gm N ρ s.bT (E KG) (S KG) bI s)
  (round: ∀st out,body st=some out->(∀r,out=.inr r->r=KK)->wW P N ρ Q ⟨.run x,.lp (Nx N ρ s.bT E S out) (∃r,out=.inr r)::k,E st,S st⟩):wW P N ρ Q ⟨.run (.loop x),k,bI,s⟩:=λG w a hn=>by
 obtain⟨G1,n1,x1⟩:=h0 (eF _) hn.iQ (.refl G s w) hn
 refine FZ (λk a' w'=> ∃G' st,bZ body k st=some KK/\xe G' N ρ (E st) (S st) a' w'/\Ext G s w G' (S st) w') ?_ ⟨_,KG,hl,n1,x1⟩
 rintro k a' w' ⟨G',st,hk,n',x'⟩
 cases k with
 |zero=>simp[bZ]at hk
 |succ k=>
  simp only[bZ]at hk
  cases hb:body st with
  |none=>simp[hb]at hk
  |some out=>
   simp only[hb]at hk
   have:=round st out hb (λr e=>by subst e;exact Option.some.inj hk) G' w' a' n'
   rw[HB x'.le hn.known]at this
   refine wpIn_mono this ?_
   rintro e a2 w2 ⟨G2,ve,s2,n2,x2,q2⟩
   have x3:=x'.trans hn.iQ x2
   cases e with
   |normal=>
    obtain⟨zZ,ho,hi⟩:=q2
    subst ho
    obtain⟨G3,n3,x4⟩:=hi (eF _) hn.iQ x3 n2
    exact⟨k,Ue _,_,zZ,hk,n3,x4⟩
   |exit id=>exact⟨G2,ve,s2,n2,x3,q2.2⟩
   |goto l=>exact⟨G2,ve,s2,n2,x3,q2.2⟩
   |ret=>exact⟨G2,ve,s2,n2,x3,q2.2⟩
   |panic ch=>exact⟨G2,ve,s2,n2,x3,q2.2⟩
   |outgrown=>exact⟨G2,ve,s2,n2,x3,q2.2⟩
theorem sR{o:Oc}{k:List Fr}{bI E2:Env}{s S2:St}{bR:Nat}(hb:s.bT<=bR)(hs:Gm N ρ bR E2 S2 bI s)(h:wW P N ρ Q ⟨o,k,E2,S2⟩):wW P N ρ Q ⟨o,k,bI,s⟩:=by
 cases o with
 |run c=>
  intro G w a hn
  obtain⟨G',n',x'⟩:=hs hb hn.iQ (.refl G s w) hn
  exact lT.later h hn.iQ hn.known x' n'
 |out e=>
  intro G w a hn
  obtain⟨G',n',x'⟩:=hs hb hn.iQ (.refl G s w) hn
  obtain⟨G2,ve,s2,n2,x2,q2⟩:=h G' w a n'
  exact⟨G2,ve,s2,n2,x'.trans hn.iQ x2,q2⟩
end
end Go.Am
