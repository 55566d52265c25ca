/-
  Plain laws, part 1b: more on loops and folds.
  Own work. No Go text.
-/
import Derived.Test.YtpbahncblggodaaGreatLp
set_option linter.all false
namespace Go.Am
open Go.RowKit
theorem findS_find{α τ:Type}{p:α->Bool}(g:α->τ): ∀(k:Nat)(l:List α),findS p (λ_ y=>g y) k l=match l.find? p with
  |some y=>.inr (g y)
  |none=>.inl ()
 |_,[]=>rfl
 |k,y::r=>by
  simp only[findS,List.find?_cons,findS_find g (k+1) r]
  cases p y<;>rfl
theorem foldE_inl{α A τ:Type}(f:A->α->A)(fin:A->τ): ∀(l:List α)(k:Nat)(a:A),foldE (λ_ a y=>(.inl (f a y):A⊕τ)) fin k l a=fin (l.foldl f a)
 | [],_,_=>rfl
 |y::r,k,a=>by simp only[foldE,foldE_inl f fin r,List.foldl_cons]
theorem loop_seq{σ τ:Type}{body:σ->Option (σ⊕τ)}(st:Nat->σ)(m:Nat){r:τ}(hb: ∀k,k<m->body (st k)=some (.inl (st (k+1))))(he:body (st m)=some (.inr r)):
  ∀(d k n:Nat),k+d=m->d<n->loopN body n (st k)=some r
 |0,k,n,hk,hn=>by
  have:k=m:=by omega
  subst this
  cases n with
  |zero=>omega
  |succ n=>simp only[loopN,he]
 |d+1,k,n,hk,hn=>by
  cases n with
  |zero=>omega
  |succ n=>
   simp only[loopN,hb k (by omega)]
   exact loop_seq st m hb he d (k+1) n (by omega) (by omega)
theorem loop_all{σ τ:Type}{body:σ->Option (σ⊕τ)}(st:Nat->σ)(m:Nat){r:τ}{s0:σ}(hm:m<=4194304)(h0:st 0=s0)(hb: ∀k,k<m->body (st k)=some (.inl (st (k+1))))(he:body (st m)=some (.inr r)):
  loopN body FUEL s0=some r:=by
 rw[<-h0]
 exact loop_seq st m hb he m 0 FUEL (by omega) (by unfold FUEL;omega)
theorem take_snoc{α:Type}{l:List α}{k:Nat}{x:α}(h:l[k]? =some x):l.take (k+1)=l.take k++[x]:=by
 rw[List.take_succ,h];rfl
end Go.Am
