/- Plain laws, part 1b: more on loops and folds. -/
import Derived.Test.YtfdnjgoegamonaaGreatDoorLp
set_option linter.all false
namespace Go.Am
open Go.RowKit
theorem tx{α τ:Type}{p:α->Bool}(g:α->τ): ∀(k:Nat)(l:List α),sS p (λ_ y=>g y) k l=match l.find? p with
  |some y=>.inr (g y)
  |none=>.inl ()
 |_,[]=>rfl
 |k,y::r=>by
  simp only[sS,List.find?_cons,tx g (k+1) r];cases p y<;>rfl
theorem vX{α A τ:Type}(f:A->α->A)(fin:A->τ): ∀(l:List α)(k:Nat)(a:A),kG (λ_ a y=>(.inl (f a y):A⊕τ)) fin k l a=fin (l.foldl f a)
 | [],_,_=>rfl
 |y::r,k,a=>by simp only[kG,vX f fin r,Sz]
theorem KO{α τ:Type}{body:Int->Option (Int⊕(Unit⊕τ))}(l:List α)(hs:cH l)
  (hb: ∀(i:Nat)y,l[i]? =some y->body i=some (.inl (wr ((i:Int)+1)))) (he:body (l.length:Nat)=some (.inr (.inl ()))):
  cA body cQ 0=some (.inl ()):=by
 have h:=kH (body:=body) (τ:=Unit⊕τ) (λ(_:Unit)i=>i) (λk _ y=>.inl ()) (λ_=>.inl ()) l (λ_ _=>True) () (jO hs) trivial
  (λi _ y hy _=>⟨by rw[hb i y hy,eT hs hy];rfl,λ_ _=>trivial⟩) (λ_ _=>he)
 rw[h,vX (λ_ _=>())]
theorem Fl{σ τ:Type}{body:σ->Option (σ⊕τ)}(st:Nat->σ)(m:Nat){r:τ}(hb: ∀k,k<m->body (st k)=some (.inl (st (k+1))))(he:body (st m)=some (.inr r)):
  ∀(d k n:Nat),k+d=m->d<n->cA body n (st k)=some r
 |0,k,n,hk,hn=>by
  have:k=m:=by omega
  subst this;cases n with
  |zero=>omega
  |succ n=>simp only[cA,he]
 |d+1,k,n,hk,hn=>by
  cases n with
  |zero=>omega
  |succ n=>
   simp only[cA,hb k (by omega)];exact Fl st m hb he d (k+1) n (by omega) (by omega)
theorem mh{σ τ:Type}{body:σ->Option (σ⊕τ)}(st:Nat->σ)(m:Nat){r:τ}{s0:σ}(hm:m<=4194304)(h0:st 0=s0)(hb: ∀k,k<m->body (st k)=some (.inl (st (k+1))))(he:body (st m)=some (.inr r)):
  cA body cQ s0=some r:=by
 rw[<-h0];exact Fl st m hb he m 0 cQ (by omega) (by unfold cQ;omega)
theorem dj{α:Type}{l:List α}{k:Nat}{x:α}(h:l[k]? =some x):l.take (k+1)=l.take k++[x]:=by
 rw[List.take_succ,h];rfl
end Go.Am
