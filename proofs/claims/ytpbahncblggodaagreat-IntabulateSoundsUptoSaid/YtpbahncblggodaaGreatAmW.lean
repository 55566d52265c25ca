/- The logic AM, W: walks in long steps: the kernel carries the code out from one parting of the ways to the next. -/
import Derived.Test.YtpbahncblggodaaGreatAmE
set_option linter.all false
namespace Go.Am
open Go.RowKit
def wQ(a:List Nat):List Nat->List Nat
 | []=>a
 |x::r=>bif jl x a then wQ a r else wQ (x::a) r
def L0:List Oper->List (List Nat)->List (List Nat)
 | [],acc=>acc
 |o::r,acc=>L0 r (acc++[(direct o).foldl (λa d=>wQ a (il acc d)) (wQ [] (direct o))])
def OT:Oper->Bool:=λo=>fN o.op
def L1:Op->Bool
 |.alloc _=>true
 |_=>false
def BW(ok:Nat->Bool):List Nat->Option Nat
 | []=>none
 |x::r=>bif ok x then some x else BW ok r
def Vv(a b:List Nat):Bool:=a.all λx=>jl x b
def Hx(x:Nat):List Nat->List Nat
 | []=>[]
 |y::r=>bif Nat.beq x y then r else y::Hx x r
def tR(lt al:Nat->Bool)(pre:List (List Nat)):Nat->List Nat->List Nat->List Nat
 |0,_,_=>[]
 |n+1,done,left=>
  let rd:=λj=>Vv (il pre j) done
  match BW (λj=>lt j&&rd j) left with
  |some j=>j::tR lt al pre n (j::done) (Hx j left)
  |none=>match BW (λj=>rd j&&!al j) left with
   |some j=>j::tR lt al pre n (j::done) (Hx j left)
   |none=>match BW rd left with
    |some j=>j::tR lt al pre n (j::done) (Hx j left)
    |none=>[]
def L2(l:List Bool)(i:Nat):Bool:=l.getD i false
def FY(lt sl:Nat->Bool)(pre:List Nat):List Nat->List Nat
 | []=>[]
 |x::r=>bif lt x&&!sl x&&!jl x pre then x::FY lt sl pre r else FY lt sl pre r
def DB(lt sl al:Nat->Bool)(pre:List (List Nat)):List Nat->List Nat->List Step
 |_,[]=>[]
 |done,j::r=>(bif lt j then .ig j false else bif al j then .alloc j else .gW j (FY lt sl (il pre j) done))::DB lt sl al pre (done++[j]) r
def yk:List Step->List Nat
 | []=>[]
 |.gW _ c::r=>c++yk r
 |_::r=>yk r
def FZ(ns:List Nat):List Step->List Step
 | []=>[]
 |.ig i _::r=>.ig i (jl i ns)::FZ ns r
 |st::r=>st::FZ ns r
def Hw(l:List Oper):List (List Nat)×List Step:=
 let pre:=L0 l []
 let Zo:=l.map OT
 let sls:=l.map λo=>jR o.op
 let Zp:=l.map λo=>L1 o.op
 let ns:=List.range l.length
 let hv:=ns.filter λj=>!L2 Zo j
 let al:=λj=>L2 Zp j&&hv.any λh=>!(Nat.beq h j)&&!jl h (il pre j)&&!jl j (il pre h)
 let st:=DB (L2 Zo) (L2 sls) al pre [] (tR (L2 Zo) al pre l.length [] ns)
 (pre,FZ (yk st) st)
inductive Oc where
 |run (c:Code)
 |out (e:Exit)
inductive Fr where
 |seq (y:Code)
 |blk (id:Nat)
 |lp (nx:Env->St->Prop) (ok:Prop)
 |sc
structure RS where
 o:Oc
 k:List Fr
 bI:Env
 s:St
def LpQ(nx:Env->St->Prop)(ok:Prop)(Q:Exit->Env->St->Prop):Exit->Env->St->Prop
 |.normal,bI,s=>nx bI s
 |e,bI,s=>ok/\Q e bI s
def Xm(Q:Exit->Env->St->Prop):Exit->Env->St->Prop
 |.goto _,_,_=>False
 |e,bI,s=>Q e bI s
theorem Xm.to{Q:Exit->Env->St->Prop}{e:Exit}{bI:Env}{s:St}(h:Xm Q e bI s):Q e bI s:=by
 cases e<;>first|exact h|exact h.elim
def QK(P:Program)(N:Nat)(ρ:Option Nat)(Q:Exit->Env->St->Prop):List Fr->Exit->Env->St->Prop
 | []=>Q
 |.seq y::k=>QZ (lA P N ρ y (QK P N ρ Q k)) (QK P N ρ Q k)
 |.blk id::k=>oq id (QK P N ρ Q k)
 |.lp nx ok::k=>LpQ nx ok (QK P N ρ Q k)
 |.sc::k=>Xm (QK P N ρ Q k)
def wj(P:Program)(N:Nat)(ρ:Option Nat)(Q:Exit->Env->St->Prop)(r:RS):Prop:=match r.o with
 |.run c=>lA P N ρ c (QK P N ρ Q r.k) r.bI r.s
 |.out e=> ∀G w a,wB G N ρ r.bI r.s a w->gM G N ρ r.s w (QK P N ρ Q r.k) e a w
section
variable {P:Program} {N:Nat} {ρ:Option Nat} {Q:Exit->Env->St->Prop}
theorem gM.of{G:bZ}{s:St}{w:World}{e e':Exit}{a:Act}{Q1 Q2:Exit->Env->St->Prop}(h:gM G N ρ s w Q1 e a w)(hq: ∀bI s,Q1 e bI s->Q2 e' bI s):gM G N ρ s w Q2 e' a w:=
 let⟨G',env',s',n',x',q'⟩:=h;⟨G',env',s',n',x',hq _ _ q'⟩
def FD(N:Nat)(ρ:Option Nat)(bQ:Nat)(E2:Env)(S2:St)(bI:Env)(s:St):Prop:=
 ∀{G0:bZ}{s0:St}{w0:World}{G:bZ}{w:World}{a:Act},s0.bS<=bQ->eA G0 s0 w0->Ext G0 s0 w0 G s w->wB G N ρ bI s a w-> ∃G',wB G' N ρ E2 S2 a w/\Ext G0 s0 w0 G' S2 w
theorem FD.refl{bQ:Nat}{bI:Env}{s:St}:FD N ρ bQ bI s bI s:=λ_ _ hx hn=>⟨_,hn,hx⟩
theorem tS{bQ:Nat}{π:Nat->Nat}{E2 bI:Env}{S2 s:St}(Ft: ∀id,ρ=some id->id<bQ)(h:I2 bQ π E2 S2 bI s):FD N ρ bQ E2 S2 bI s:=
 λhb h0 hx hn=>⟨_,h.now Ft hn,h.st.ext h0 hx hn.iE hb⟩
theorem Lq{bQ:Nat}{E2 bI E3:Env}{S2 s S3:St}(he: ∀t x,bH E2 t=some x->bH bI t=some x)(hs:YO S2 s)(h:FD N ρ bQ E3 S3 E2 S2):FD N ρ bQ E3 S3 bI s:=
 λhb h0 hx hn=>h hb h0 (hx.trans h0 (Ext.drop hs.heap hs.bS hs.gb)) ⟨hn.iE.drop hs.heap hs.bS,hn.bI.sub he,hn.size,hn.lQ.drop hs.gb,hn.known⟩
def Nx(N:Nat)(ρ:Option Nat){σ τ:Type}(bQ:Nat)(E:σ->Env)(S:σ->St)(out:σ⊕τ):Env->St->Prop:=λenv' s'=> ∃zl,out=.inl zl/\FD N ρ bQ (E zl) (S zl) env' s'
theorem OU{σ τ:Type}{bQ:Nat}{E:σ->Env}{S:σ->St}{out:σ⊕τ}{ok:Prop}{k:List Fr}{zl:σ}{bI:Env}{s:St}(ho:out=.inl zl)(h:FD N ρ bQ (E zl) (S zl) bI s):wj P N ρ Q ⟨.out .normal,.lp (Nx N ρ bQ E S out) ok::k,bI,s⟩:=
 λ_ _ _ hn=>hn.after ⟨zl,ho,h⟩
theorem OV{x:Code}{k:List Fr}{bI:Env}{s:St}{σ τ:Type}(body:σ->Option (σ⊕τ)){n:Nat}{JW:σ}{JZ:τ}(hl:bY body n JW=some JZ)(E:σ->Env)(S:σ->St)
  (h0:FD N ρ s.bS (E JW) (S JW) bI s)
  (round: ∀st out,body st=some out->(∀r,out=.inr r->r=JZ)->wj P N ρ Q ⟨.run x,.lp (Nx N ρ s.bS E S out) (∃r,out=.inr r)::k,E st,S st⟩):wj P N ρ Q ⟨.run (.loop x),k,bI,s⟩:=λG w a hn=>by
 obtain⟨G1,n1,x1⟩:=h0 (eu _) hn.iE (.refl G s w) hn
 refine Fc (λk a' w'=> ∃G' st,bY body k st=some JZ/\wB G' N ρ (E st) (S st) a' w'/\Ext G s w G' (S st) w') ?_ ⟨_,JW,hl,n1,x1⟩
 rintro k a' w' ⟨G',st,hk,n',x'⟩
 cases k with
 |zero=>simp[bY]at hk
 |succ k=>
  simp only[bY]at hk
  cases hb:body st with
  |none=>simp[hb]at hk
  |some out=>
   simp only[hb]at hk
   have:=round st out hb (λr e=>by subst e;exact Option.some.inj hk) G' w' a' n'
   rw[GL x'.le hn.known]at this
   refine wpIn_mono this ?_
   rintro e a2 w2 ⟨G2,uE,s2,n2,x2,q2⟩
   have x3:=x'.trans hn.iE x2
   cases e with
   |normal=>
    obtain⟨zl,ho,hi⟩:=q2
    subst ho
    obtain⟨G3,n3,x4⟩:=hi (eu _) hn.iE x3 n2
    exact⟨k,Td _,_,zl,hk,n3,x4⟩
   |exit id=>exact⟨G2,uE,s2,n2,x3,q2.2⟩
   |goto l=>exact⟨G2,uE,s2,n2,x3,q2.2⟩
   |ret=>exact⟨G2,uE,s2,n2,x3,q2.2⟩
   |panic ch=>exact⟨G2,uE,s2,n2,x3,q2.2⟩
   |outgrown=>exact⟨G2,uE,s2,n2,x3,q2.2⟩
theorem rZ{o:Oc}{k:List Fr}{bI E2:Env}{s S2:St}{bQ:Nat}(hb:s.bS<=bQ)(hs:FD N ρ bQ E2 S2 bI s)(h:wj P N ρ Q ⟨o,k,E2,S2⟩):wj P N ρ Q ⟨o,k,bI,s⟩:=by
 cases o with
 |run c=>
  intro G w a hn
  obtain⟨G',n',x'⟩:=hs hb hn.iE (.refl G s w) hn
  exact lA.later h hn.iE hn.known x' n'
 |out e=>
  intro G w a hn
  obtain⟨G',n',x'⟩:=hs hb hn.iE (.refl G s w) hn
  obtain⟨G2,uE,s2,n2,x2,q2⟩:=h G' w a n'
  exact⟨G2,uE,s2,n2,x'.trans hn.iE x2,q2⟩
end
end Go.Am
