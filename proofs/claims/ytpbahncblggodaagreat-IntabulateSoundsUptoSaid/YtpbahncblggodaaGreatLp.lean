/- Plain laws, part 1: loops as folds with an early end. -/
import Derived.Test.YtpbahncblggodaaGreatAm31
set_option linter.all false
namespace Go.Am
open Go.RowKit
def jn{α A τ:Type}(step:Nat->A->α->A⊕τ)(fin:A->τ):Nat->List α->A->τ
 |_,[],a=>fin a
 |k,y::r,a=>match step k a y with
  |.inl a'=>jn step fin (k+1) r a'
  |.inr t=>t
def AQ{A σ τ:Type}(mk:A->Int->σ)(i:Nat):A⊕τ->σ⊕τ
 |.inl a=>.inl (mk a (i+1:Nat))
 |.inr t=>.inr t
theorem Cr{α A σ τ:Type}{body:σ->Option (σ⊕τ)}(mk:A->Int->σ)(step:Nat->A->α->A⊕τ)(fin:A->τ)(l:List α)(Inv:Nat->A->Prop)
  (hb: ∀(i:Nat)a y,l[i]? =some y->Inv i a->body (mk a i)=some (AQ mk i (step i a y))/\ ∀a',step i a y=.inl a'->Inv (i+1) a')
  (he: ∀a,Inv l.length a->body (mk a (l.length:Nat))=some (.inr (fin a))):
  ∀(r:List α)(k:Nat)(n:Nat)(a:A),l.drop k=r->k<=l.length->r.length<n->Inv k a->bY body n (mk a k)=some (jn step fin k r a):=by
 intro r
 induction r with
 |nil=>
  intro k n a hd hk hn hi
  have TW:k=l.length:=by have:=List.drop_eq_nil_iff.1 hd;omega
  subst TW
  cases n with
  |zero=>simp at hn
  |succ n=>simp only[bY,he a hi,jn]
 |cons y r ih=>
  intro k n a hd hk hn hi
  have hy:l[k]? =some y:=by
   have:=congrArg (·[0]?) hd
   simpa using this
  have uy:l.drop (k+1)=r:=by
   have:=congrArg (List.drop 1) hd
   simpa[List.drop_drop]using this
  cases n with
  |zero=>simp at hn
  |succ n=>
   obtain⟨h1,h2⟩:=hb k a y hy hi
   simp only[bY,h1,jn]
   cases hs:step k a y with
   |inl a'=>
    simp only[AQ]
    have gh:=(fM.1 hy).1
    exact ih (k+1) n a' uy gh (by simp at hn;omega) (h2 a' hs)
   |inr t=>rfl
theorem iW{α A σ τ:Type}{body:σ->Option (σ⊕τ)}(mk:A->Int->σ)(step:Nat->A->α->A⊕τ)(fin:A->τ)(l:List α)(Inv:Nat->A->Prop)(a:A){n:Nat}(hn:l.length<n)(hi:Inv 0 a)
  (hb: ∀(i:Nat)a y,l[i]? =some y->Inv i a->body (mk a i)=some (AQ mk i (step i a y))/\ ∀a',step i a y=.inl a'->Inv (i+1) a')
  (he: ∀a,Inv l.length a->body (mk a (l.length:Nat))=some (.inr (fin a))):bY body n (mk a 0)=some (jn step fin 0 l a):=
 Cr mk step fin l Inv hb he l 0 n a rfl (zX _) hn hi
abbrev bT{α:Type}(l:List α):Prop:=l.length<=4194304
theorem su{n:Int}(h1: -9223372036854775808<=n)(h2:n<=9223372036854775807):wr n=n:=w64 h1 h2
theorem gP{i:Nat}(h:i<=4194304):wr ((i:Int)+1)=((i+1:Nat):Int):=by rw[su (by omega) (by omega)];omega
section
variable {α:Type} {l:List α} {i:Nat} {y:α}
theorem b9(h:l[i]? =some y):ix l (i:Int)=some y:=by simp[ix,h]
theorem Wz(h:l[i]? =some y):(i:Int)<(l.length:Int):=by have:=(fM.1 h).1;omega
theorem dB(hs:bT l)(h:l[i]? =some y):wr ((i:Int)+1)=((i+1:Nat):Int):=gP (by have:=(fM.1 h).1;simp only[bT]at hs;omega)
theorem cJ(h:l[i]? =some y):decide ((i:Int)<(l.length:Int))=true:=by simpa using Wz h
theorem gT(hs:bT l):l.length<cy:=by simp only[bT]at hs;unfold cy;omega
end
def rO{α τ:Type}(p:α->Bool)(R:Nat->α->τ):Nat->List α->Unit⊕τ
 |_,[]=>.inl ()
 |k,y::r=>bif p y then .inr (R k y)else rO p R (k+1) r
theorem dP{α τ:Type}{body:Int->Option (Int⊕(Unit⊕τ))}(l:List α)(p:α->Bool)(R:Nat->α->τ)(hs:bT l)
  (hb: ∀(i:Nat)y,l[i]? =some y->body i=some (bif p y then .inr (.inr (R i y))else .inl (wr ((i:Int)+1)))) (he:body (l.length:Nat)=some (.inr (.inl ()))):
  bY body cy 0=some (rO p R 0 l):=by
 have h:=iW (body:=body) (λ(_:Unit)i=>i) (λk _ y=>bif p y then .inr (.inr (R k y))else .inl ()) (λ_=>.inl ()) l (λ_ _=>True) () (gT hs) trivial
  (λi _ y hy _=>⟨by rw[hb i y hy,dB hs hy];cases p y<;>rfl,λ_ _=>trivial⟩) (λ_ _=>he)
 rw[h]
 have key: ∀(r:List α)(k:Nat),jn (τ:=Unit⊕τ) (λk(_:Unit)y=>bif p y then .inr (.inr (R k y))else .inl ()) (λ_=>.inl ()) k r ()=rO p R k r:=by
  intro r
  induction r with
  |nil=>intro k;rfl
  |cons y r ih=>intro k;simp only[jn,rO];cases p y<;>simp[ih]
 rw[key]
theorem uW{α τ:Type}{p:α->Bool}(c:τ): ∀(k:Nat)(l:List α),rO p (λ_ _=>c) k l=bif l.any p then .inr c else .inl ()
 |_,[]=>rfl
 |k,y::r=>by
  simp only[rO,Ue,uW c (k+1) r]
  cases p y<;>rfl
def gu{α:Type}(p:α->Bool)(l:List α):Int:=match l.findIdx? p with
 |some i=>i
 |none=> -1
theorem fi{α:Type}{p:α->Bool}: ∀(k:Nat)(l:List α),rO p (λi _=>(i:Int)) k l=match l.findIdx? p with
  |some i=>.inr ((k+i:Nat):Int)
  |none=>.inl ()
 |_,[]=>rfl
 |k,y::r=>by
  simp only[rO,List.findIdx?_cons,fi (k+1) r]
  cases p y with
  |true=>simp
  |false=>
   cases r.findIdx? p with
   |none=>simp
   |some i=>simp;omega
theorem fT{α:Type}{p:α->Bool}{l:List α}:decide (0<=gu p l)=l.any p:=by
 unfold gu
 cases h:l.findIdx? p with
 |none=>
  have:l.any p=false:=by
   rw[WS]at h
   rw[Ny]
   intro x hx;simp[h x hx]
  rw[this];simp
 |some i=>
  have:l.any p=true:=by
   obtain⟨gh,hp,_⟩:=Ui.1 h
   rw[w9]
   exact⟨l[i],zo _,hp⟩
  rw[this];simp
end Go.Am
