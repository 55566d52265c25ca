/- Plain laws, part 1: loops as folds with an early end. -/
import Derived.Test.YtgpciecmgoppiaaGreatAm31
set_option linter.all false
namespace Go.Am
open Go.RowKit
def jJ{α A τ:Type}(step:Nat->A->α->A⊕τ)(fin:A->τ):Nat->List α->A->τ
 |_,[],a=>fin a
 |k,y::r,a=>match step k a y with
  |.inl a'=>jJ step fin (k+1) r a'
  |.inr t=>t
def BG{A σ τ:Type}(mk:A->Int->σ)(i:Nat):A⊕τ->σ⊕τ
 |.inl a=>.inl (mk a (i+1:Nat))
 |.inr t=>.inr t
theorem Da{α A σ τ:Type}{body:σ->Option (σ⊕τ)}(mk:A->Int->σ)(step:Nat->A->α->A⊕τ)(fin:A->τ)(l:List α)(Inv:Nat->A->Prop)
  (hb: ∀(i:Nat)a y,l[i]? =some y->Inv i a->body (mk a i)=some (BG mk i (step i a y))/\ ∀a',step i a y=.inl a'->Inv (i+1) a')
  (he: ∀a,Inv l.length a->body (mk a (l.length:Nat))=some (.inr (fin a))):
  ∀(r:List α)(k:Nat)(n:Nat)(a:A),l.drop k=r->k<=l.length->r.length<n->Inv k a->bO body n (mk a k)=some (jJ step fin k r a):=by
 intro r
 induction r with
 |nil=>
  intro k n a hd hk hn hi;have ZG:k=l.length:=by grind
  subst ZG;cases n with
  |zero=>simp at hn
  |succ n=>simp only[bO,he a hi,jJ]
 |cons y r ih=>
  intro k n a hd hk hn hi;have hy:l[k]? =some y:=by
   have:=fL (·[0]?) hd
   grind
  have LL:l.drop (k+1)=r:=by
   have:=fL (List.drop 1) hd
   grind [List.drop_drop]
  cases n with
  |zero=>simp at hn
  |succ n=>
   obtain⟨h1,h2⟩:=hb k a y hy hi;simp only[bO,h1,jJ];cases hs:step k a y with
   |inl a'=>
    simp only[BG]
    grind
   |inr t=>rfl
theorem jm{α A σ τ:Type}{body:σ->Option (σ⊕τ)}(mk:A->Int->σ)(step:Nat->A->α->A⊕τ)(fin:A->τ)(l:List α)(Inv:Nat->A->Prop)(a:A){n:Nat}(hn:l.length<n)(hi:Inv 0 a)
  (hb: ∀(i:Nat)a y,l[i]? =some y->Inv i a->body (mk a i)=some (BG mk i (step i a y))/\ ∀a',step i a y=.inl a'->Inv (i+1) a')
  (he: ∀a,Inv l.length a->body (mk a (l.length:Nat))=some (.inr (fin a))):bO body n (mk a 0)=some (jJ step fin 0 l a):=
 Da mk step fin l Inv hb he l 0 n a rfl (Ds _) hn hi
abbrev ck{α:Type}(l:List α):Prop:=l.length<=4194304
theorem sX{n:Int}(h1: -9223372036854775808<=n)(h2:n<=9223372036854775807):wr n=n:=w64 h1 h2
theorem iz{i:Nat}(h:i<=4194304):wr ((i:Int)+1)=((i+1:Nat):Int):=by grind [sX]
section
variable {α:Type} {l:List α} {i:Nat} {y:α}
theorem bT(h:l[i]? =some y):ix l (i:Int)=some y:=by simp[ix,h]
theorem dp(hs:ck l)(h:l[i]? =some y):wr ((i:Int)+1)=((i+1:Nat):Int):=iz (by grind)
theorem cy(h:l[i]? =some y):decide ((i:Int)<(l.length:Int))=true:=by grind
theorem iD(hs:ck l):l.length<cr:=by grind
end
def sB{α τ:Type}(p:α->Bool)(R:Nat->α->τ):Nat->List α->Unit⊕τ
 |_,[]=>.inl ()
 |k,y::r=>bif p y then .inr (R k y)else sB p R (k+1) r
theorem eg{α τ:Type}{body:Int->Option (Int⊕(Unit⊕τ))}(l:List α)(p:α->Bool)(R:Nat->α->τ)(hs:ck l)
  (hb: ∀(i:Nat)y,l[i]? =some y->body i=some (bif p y then .inr (.inr (R i y))else .inl (wr ((i:Int)+1)))) (he:body (l.length:Nat)=some (.inr (.inl ()))):
  bO body cr 0=some (sB p R 0 l):=by
 have h:=jm (body:=body) (λ(_:Unit)i=>i) (λk _ y=>bif p y then .inr (.inr (R k y))else .inl ()) (λ_=>.inl ()) l (λ_ _=>True) () (iD hs) trivial
  (λi _ y hy _=>⟨by rw[hb i y hy,dp hs hy];cases p y<;>rfl,λ_ _=>trivial⟩) (λ_ _=>he)
 rw[h];have key: ∀(r:List α)(k:Nat),jJ (τ:=Unit⊕τ) (λk(_:Unit)y=>bif p y then .inr (.inr (R k y))else .inl ()) (λ_=>.inl ()) k r ()=sB p R k r:=by
  intro r
  induction r with
  |nil=>intro k;rfl
  |cons y r ih=>intro k;simp only[jJ,sB];grind
 rw[key]
theorem vQ{α τ:Type}{p:α->Bool}(c:τ): ∀(k:Nat)(l:List α),sB p (λ_ _=>c) k l=bif l.any p then .inr c else .inl ()
 |_,[]=>rfl
 |k,y::r=>by
  simp only[sB,List.any_cons,vQ c (k+1) r];cases p y<;>rfl
def gX{α:Type}(p:α->Bool)(l:List α):Int:=match l.findIdx? p with
 |some i=>i
 |none=> -1
theorem fH{α:Type}{p:α->Bool}: ∀(k:Nat)(l:List α),sB p (λi _=>(i:Int)) k l=match l.findIdx? p with
  |some i=>.inr ((k+i:Nat):Int)
  |none=>.inl ()
 |_,[]=>rfl
 |k,y::r=>by
  simp only[sB,List.findIdx?_cons,fH (k+1) r];cases p y with
  |true=>simp
  |false=>
   cases r.findIdx? p with
   |none=>simp
   |some i=>simp;omega
theorem gJ{α:Type}{p:α->Bool}{l:List α}:decide (0<=gX p l)=l.any p:=by
 unfold gX
 grind
end Go.Am
