/- Plain laws, part 1b: more on loops and folds. -/
import Derived.Test.YtpbahncblggodaaGreatLp
set_option linter.all false
namespace Go.Am
open Go.RowKit
theorem li{α τ:Type}{p:α->Bool}(g:α->τ): ∀(k:Nat)(l:List α),sD p (λ_ y=>g y) k l=match l.find? p with
  |some y=>.inr (g y)
  |none=>.inl ()
 |_,[]=>rfl
 |k,y::r=>by
  simp only[sD,List.find?_cons,li g (k+1) r]
  cases p y<;>rfl
theorem BF{α A τ:Type}(f:A->α->A)(fin:A->τ): ∀(l:List α)(k:Nat)(a:A),jG (λ_ a y=>(.inl (f a y):A⊕τ)) fin k l a=fin (l.foldl f a)
 | [],_,_=>rfl
 |y::r,k,a=>by simp only[jG,BF f fin r,RP]
theorem E4{σ τ:Type}{body:σ->Option (σ⊕τ)}(st:Nat->σ)(m:Nat){r:τ}(hb: ∀k,k<m->body (st k)=some (.inl (st (k+1))))(he:body (st m)=some (.inr r)):
  ∀(d k n:Nat),k+d=m->d<n->bZ body n (st k)=some r
 |0,k,n,hk,hn=>by
  have:k=m:=by omega
  subst this
  cases n with
  |zero=>omega
  |succ n=>simp only[bZ,he]
 |d+1,k,n,hk,hn=>by
  cases n with
  |zero=>omega
  |succ n=>
   simp only[bZ,hb k (by omega)]
   exact E4 st m hb he d (k+1) n (by omega) (by omega)
theorem jf{σ τ:Type}{body:σ->Option (σ⊕τ)}(st:Nat->σ)(m:Nat){r:τ}{s0:σ}(hm:m<=4194304)(h0:st 0=s0)(hb: ∀k,k<m->body (st k)=some (.inl (st (k+1))))(he:body (st m)=some (.inr r)):
  bZ body cz s0=some r:=by
 rw[<-h0]
 exact E4 st m hb he m 0 cz (by omega) (by unfold cz;omega)
theorem cQ{α:Type}{l:List α}{k:Nat}{x:α}(h:l[k]? =some x):l.take (k+1)=l.take k++[x]:=by
 rw[List.take_succ,h];rfl
end Go.Am
