/- Plain laws, part 1b: more on loops and folds. -/
import Derived.Test.YtgpciecmgoppiaaGreatLp
set_option linter.all false
namespace Go.Am
open Go.RowKit
theorem lH{α τ:Type}{p:α->Bool}(g:α->τ): ∀(k:Nat)(l:List α),sB p (λ_ y=>g y) k l=match l.find? p with
  |some y=>.inr (g y)
  |none=>.inl ()
 |_,[]=>rfl
 |k,y::r=>by
  simp only[sB,List.find?_cons,lH g (k+1) r];cases p y<;>rfl
theorem BH{α A τ:Type}(f:A->α->A)(fin:A->τ): ∀(l:List α)(k:Nat)(a:A),jJ (λ_ a y=>(.inl (f a y):A⊕τ)) fin k l a=fin (l.foldl f a)
 | [],_,_=>rfl
 |y::r,k,a=>by simp only[jJ,BH f fin r,VI]
theorem E0{σ τ:Type}{body:σ->Option (σ⊕τ)}(st:Nat->σ)(m:Nat){r:τ}(hb: ∀k,k<m->body (st k)=some (.inl (st (k+1))))(he:body (st m)=some (.inr r)):
  ∀(d k n:Nat),k+d=m->d<n->bO body n (st k)=some r
 |0,k,n,hk,hn=>by
  have:k=m:=by omega
  subst this;cases n with
  |zero=>omega
  |succ n=>simp only[bO,he]
 |d+1,k,n,hk,hn=>by
  cases n with
  |zero=>omega
  |succ n=>
   simp only[bO,hb k (by omega)];exact E0 st m hb he d (k+1) n (by omega) (by omega)
theorem jj{σ τ:Type}{body:σ->Option (σ⊕τ)}(st:Nat->σ)(m:Nat){r:τ}{s0:σ}(hm:m<=4194304)(h0:st 0=s0)(hb: ∀k,k<m->body (st k)=some (.inl (st (k+1))))(he:body (st m)=some (.inr r)):
  bO body cr s0=some r:=by
 rw[<-h0];exact E0 st m hb he m 0 cr (by omega) (by unfold cr;omega)
theorem cz{α:Type}{l:List α}{k:Nat}{x:α}(h:l[k]? =some x):l.take (k+1)=l.take k++[x]:=by
 rw[List.take_succ,h];rfl
end Go.Am
