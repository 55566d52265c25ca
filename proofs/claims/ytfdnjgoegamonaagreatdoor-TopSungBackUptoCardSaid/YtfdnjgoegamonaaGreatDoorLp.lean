/- Plain laws, part 1: loops as folds with an early end. -/
import Derived.Test.YtfdnjgoegamonaaGreatDoorAm31
set_option linter.all false
namespace Go.Am
open Go.RowKit
def kG{α A τ:Type}(step:Nat->A->α->A⊕τ)(fin:A->τ):Nat->List α->A->τ
 |_,[],a=>fin a
 |k,y::r,a=>match step k a y with
  |.inl a'=>kG step fin (k+1) r a'
  |.inr t=>t
def BV{A σ τ:Type}(mk:A->Int->σ)(i:Nat):A⊕τ->σ⊕τ
 |.inl a=>.inl (mk a (i+1:Nat))
 |.inr t=>.inr t
theorem Dl{α A σ τ:Type}{body:σ->Option (σ⊕τ)}(mk:A->Int->σ)(step:Nat->A->α->A⊕τ)(fin:A->τ)(l:List α)(Inv:Nat->A->Prop)
  (hb: ∀(i:Nat)a y,l[i]? =some y->Inv i a->body (mk a i)=some (BV mk i (step i a y))/\ ∀a',step i a y=.inl a'->Inv (i+1) a')
  (he: ∀a,Inv l.length a->body (mk a (l.length:Nat))=some (.inr (fin a))):
  ∀(r:List α)(k:Nat)(n:Nat)(a:A),l.drop k=r->k<=l.length->r.length<n->Inv k a->cA body n (mk a k)=some (kG step fin k r a):=by
 intro r
 induction r with
 |nil=>
  intro k n a hd hk hn hi;have Uh:k=l.length:=by have:=List.drop_eq_nil_iff.1 hd;omega
  subst Uh;cases n with
  |zero=>simp at hn
  |succ n=>simp only[cA,he a hi,kG]
 |cons y r ih=>
  intro k n a hd hk hn hi;have hy:l[k]? =some y:=by
   have:=fC (·[0]?) hd;simpa using this
  have vq:l.drop (k+1)=r:=by
   have:=fC (List.drop 1) hd;simpa[List.drop_drop]using this
  cases n with
  |zero=>simp at hn
  |succ n=>
   obtain⟨h1,h2⟩:=hb k a y hy hi;simp only[cA,h1,kG];cases hs:step k a y with
   |inl a'=>
    simp only[BV];have gl:=(fT.1 hy).1;exact ih (k+1) n a' vq gl (by simp at hn;omega) (h2 a' hs)
   |inr t=>rfl
theorem kH{α A σ τ:Type}{body:σ->Option (σ⊕τ)}(mk:A->Int->σ)(step:Nat->A->α->A⊕τ)(fin:A->τ)(l:List α)(Inv:Nat->A->Prop)(a:A){n:Nat}(hn:l.length<n)(hi:Inv 0 a)
  (hb: ∀(i:Nat)a y,l[i]? =some y->Inv i a->body (mk a i)=some (BV mk i (step i a y))/\ ∀a',step i a y=.inl a'->Inv (i+1) a')
  (he: ∀a,Inv l.length a->body (mk a (l.length:Nat))=some (.inr (fin a))):cA body n (mk a 0)=some (kG step fin 0 l a):=
 Dl mk step fin l Inv hb he l 0 n a rfl (xC _) hn hi
abbrev cH{α:Type}(l:List α):Prop:=l.length<=4194304
theorem Fk{n:Int}(h1: -9223372036854775808<=n)(h2:n<=9223372036854775807):wr n=n:=w64 h1 h2
theorem fH{i:Nat}(h:i<=4194304):wr ((i:Int)+1)=((i+1:Nat):Int):=by rw[Fk (by omega) (by omega)];omega
section
variable {α:Type} {l:List α} {i:Nat} {y:α}
theorem cJ(h:l[i]? =some y):ix l (i:Int)=some y:=by simp[ix,h]
theorem Xu(h:l[i]? =some y):(i:Int)<(l.length:Int):=by have:=(fT.1 h).1;omega
theorem eT(hs:cH l)(h:l[i]? =some y):wr ((i:Int)+1)=((i+1:Nat):Int):=fH (by have:=(fT.1 h).1;simp only[cH]at hs;omega)
theorem dr(h:l[i]? =some y):decide ((i:Int)<(l.length:Int))=true:=by simpa using Xu h
theorem jO(hs:cH l):l.length<cQ:=by simp only[cH]at hs;unfold cQ;omega
end
def sS{α τ:Type}(p:α->Bool)(R:Nat->α->τ):Nat->List α->Unit⊕τ
 |_,[]=>.inl ()
 |k,y::r=>bif p y then .inr (R k y)else sS p R (k+1) r
theorem fZ{α τ:Type}{body:Int->Option (Int⊕(Unit⊕τ))}(l:List α)(p:α->Bool)(R:Nat->α->τ)(hs:cH l)
  (hb: ∀(i:Nat)y,l[i]? =some y->body i=some (bif p y then .inr (.inr (R i y))else .inl (wr ((i:Int)+1)))) (he:body (l.length:Nat)=some (.inr (.inl ()))):
  cA body cQ 0=some (sS p R 0 l):=by
 have h:=kH (body:=body) (λ(_:Unit)i=>i) (λk _ y=>bif p y then .inr (.inr (R k y))else .inl ()) (λ_=>.inl ()) l (λ_ _=>True) () (jO hs) trivial
  (λi _ y hy _=>⟨by rw[hb i y hy,eT hs hy];cases p y<;>rfl,λ_ _=>trivial⟩) (λ_ _=>he)
 rw[h];have key: ∀(r:List α)(k:Nat),kG (τ:=Unit⊕τ) (λk(_:Unit)y=>bif p y then .inr (.inr (R k y))else .inl ()) (λ_=>.inl ()) k r ()=sS p R k r:=by
  intro r
  induction r with
  |nil=>intro k;rfl
  |cons y r ih=>intro k;simp only[kG,sS];cases p y<;>simp[ih]
 rw[key]
theorem BW{α τ:Type}{p:α->Bool}(c:τ): ∀(k:Nat)(l:List α),sS p (λ_ _=>c) k l=bif l.any p then .inr c else .inl ()
 |_,[]=>rfl
 |k,y::r=>by
  simp only[sS,List.any_cons,BW c (k+1) r];cases p y<;>rfl
def iF{α:Type}(p:α->Bool)(l:List α):Int:=match l.findIdx? p with
 |some i=>i
 |none=> -1
theorem gJ{α:Type}{p:α->Bool}: ∀(k:Nat)(l:List α),sS p (λi _=>(i:Int)) k l=match l.findIdx? p with
  |some i=>.inr ((k+i:Nat):Int)
  |none=>.inl ()
 |_,[]=>rfl
 |k,y::r=>by
  simp only[sS,List.findIdx?_cons,gJ (k+1) r];cases p y with
  |true=>simp
  |false=>
   cases r.findIdx? p with
   |none=>simp
   |some i=>simp;omega
theorem gz{α:Type}{p:α->Bool}{l:List α}:decide (0<=iF p l)=l.any p:=by
 unfold iF;cases h:l.findIdx? p with
 |none=>
  have:l.any p=false:=by
   rw[ZR]at h;rw[Vf];intro x hx;simp[h x hx]
  rw[this];simp
 |some i=>
  have:l.any p=true:=by
   obtain⟨gl,hp,_⟩:=V2.1 h;rw[AO];exact⟨l[i],JN _,hp⟩
  rw[this];simp
end Go.Am
