/- Plain laws, part 1: loops as folds with an early end. -/
import Derived.Test.YtpbahncblggodaaGreatAm31
set_option linter.all false
namespace Go.Am
open Go.RowKit
def jG{α A τ:Type}(step:Nat->A->α->A⊕τ)(fin:A->τ):Nat->List α->A->τ
 |_,[],a=>fin a
 |k,y::r,a=>match step k a y with
  |.inl a'=>jG step fin (k+1) r a'
  |.inr t=>t
def BK{A σ τ:Type}(mk:A->Int->σ)(i:Nat):A⊕τ->σ⊕τ
 |.inl a=>.inl (mk a (i+1:Nat))
 |.inr t=>.inr t
theorem C8{α A σ τ:Type}{body:σ->Option (σ⊕τ)}(mk:A->Int->σ)(step:Nat->A->α->A⊕τ)(fin:A->τ)(l:List α)(Inv:Nat->A->Prop)
  (hb: ∀(i:Nat)a y,l[i]? =some y->Inv i a->body (mk a i)=some (BK mk i (step i a y))/\ ∀a',step i a y=.inl a'->Inv (i+1) a')
  (he: ∀a,Inv l.length a->body (mk a (l.length:Nat))=some (.inr (fin a))):
  ∀(r:List α)(k:Nat)(n:Nat)(a:A),l.drop k=r->k<=l.length->r.length<n->Inv k a->bZ body n (mk a k)=some (jG step fin k r a):=by
 intro r
 induction r with
 |nil=>
  intro k n a hd hk hn hi
  have UO:k=l.length:=by have:=List.drop_eq_nil_iff.1 hd;omega
  subst UO
  cases n with
  |zero=>simp at hn
  |succ n=>simp only[bZ,he a hi,jG]
 |cons y r ih=>
  intro k n a hd hk hn hi
  have hy:l[k]? =some y:=by
   have:=fA (·[0]?) hd
   simpa using this
  have uX:l.drop (k+1)=r:=by
   have:=fA (List.drop 1) hd
   simpa[List.drop_drop]using this
  cases n with
  |zero=>simp at hn
  |succ n=>
   obtain⟨h1,h2⟩:=hb k a y hy hi
   simp only[bZ,h1,jG]
   cases hs:step k a y with
   |inl a'=>
    simp only[BK]
    have gq:=(fP.1 hy).1
    exact ih (k+1) n a' uX gq (by simp at hn;omega) (h2 a' hs)
   |inr t=>rfl
theorem jj{α A σ τ:Type}{body:σ->Option (σ⊕τ)}(mk:A->Int->σ)(step:Nat->A->α->A⊕τ)(fin:A->τ)(l:List α)(Inv:Nat->A->Prop)(a:A){n:Nat}(hn:l.length<n)(hi:Inv 0 a)
  (hb: ∀(i:Nat)a y,l[i]? =some y->Inv i a->body (mk a i)=some (BK mk i (step i a y))/\ ∀a',step i a y=.inl a'->Inv (i+1) a')
  (he: ∀a,Inv l.length a->body (mk a (l.length:Nat))=some (.inr (fin a))):bZ body n (mk a 0)=some (jG step fin 0 l a):=
 C8 mk step fin l Inv hb he l 0 n a rfl (AK _) hn hi
abbrev bU{α:Type}(l:List α):Prop:=l.length<=4194304
theorem sY{n:Int}(h1: -9223372036854775808<=n)(h2:n<=9223372036854775807):wr n=n:=w64 h1 h2
theorem gH{i:Nat}(h:i<=4194304):wr ((i:Int)+1)=((i+1:Nat):Int):=by rw[sY (by omega) (by omega)];omega
section
variable {α:Type} {l:List α} {i:Nat} {y:α}
theorem cj(h:l[i]? =some y):ix l (i:Int)=some y:=by simp[ix,h]
theorem Xo(h:l[i]? =some y):(i:Int)<(l.length:Int):=by have:=(fP.1 h).1;omega
theorem dI(hs:bU l)(h:l[i]? =some y):wr ((i:Int)+1)=((i+1:Nat):Int):=gH (by have:=(fP.1 h).1;simp only[bU]at hs;omega)
theorem cJ(h:l[i]? =some y):decide ((i:Int)<(l.length:Int))=true:=by simpa using Xo h
theorem il(hs:bU l):l.length<cz:=by simp only[bU]at hs;unfold cz;omega
end
def sD{α τ:Type}(p:α->Bool)(R:Nat->α->τ):Nat->List α->Unit⊕τ
 |_,[]=>.inl ()
 |k,y::r=>bif p y then .inr (R k y)else sD p R (k+1) r
theorem ey{α τ:Type}{body:Int->Option (Int⊕(Unit⊕τ))}(l:List α)(p:α->Bool)(R:Nat->α->τ)(hs:bU l)
  (hb: ∀(i:Nat)y,l[i]? =some y->body i=some (bif p y then .inr (.inr (R i y))else .inl (wr ((i:Int)+1)))) (he:body (l.length:Nat)=some (.inr (.inl ()))):
  bZ body cz 0=some (sD p R 0 l):=by
 have h:=jj (body:=body) (λ(_:Unit)i=>i) (λk _ y=>bif p y then .inr (.inr (R k y))else .inl ()) (λ_=>.inl ()) l (λ_ _=>True) () (il hs) trivial
  (λi _ y hy _=>⟨by rw[hb i y hy,dI hs hy];cases p y<;>rfl,λ_ _=>trivial⟩) (λ_ _=>he)
 rw[h]
 have key: ∀(r:List α)(k:Nat),jG (τ:=Unit⊕τ) (λk(_:Unit)y=>bif p y then .inr (.inr (R k y))else .inl ()) (λ_=>.inl ()) k r ()=sD p R k r:=by
  intro r
  induction r with
  |nil=>intro k;rfl
  |cons y r ih=>intro k;simp only[jG,sD];cases p y<;>simp[ih]
 rw[key]
theorem vz{α τ:Type}{p:α->Bool}(c:τ): ∀(k:Nat)(l:List α),sD p (λ_ _=>c) k l=bif l.any p then .inr c else .inl ()
 |_,[]=>rfl
 |k,y::r=>by
  simp only[sD,U4,vz c (k+1) r]
  cases p y<;>rfl
def gG{α:Type}(p:α->Bool)(l:List α):Int:=match l.findIdx? p with
 |some i=>i
 |none=> -1
theorem fC{α:Type}{p:α->Bool}: ∀(k:Nat)(l:List α),sD p (λi _=>(i:Int)) k l=match l.findIdx? p with
  |some i=>.inr ((k+i:Nat):Int)
  |none=>.inl ()
 |_,[]=>rfl
 |k,y::r=>by
  simp only[sD,List.findIdx?_cons,fC (k+1) r]
  cases p y with
  |true=>simp
  |false=>
   cases r.findIdx? p with
   |none=>simp
   |some i=>simp;omega
theorem gb{α:Type}{p:α->Bool}{l:List α}:decide (0<=gG p l)=l.any p:=by
 unfold gG
 cases h:l.findIdx? p with
 |none=>
  have:l.any p=false:=by
   rw[XH]at h
   rw[KA]
   intro x hx;simp[h x hx]
  rw[this];simp
 |some i=>
  have:l.any p=true:=by
   obtain⟨gq,hp,_⟩:=U9.1 h
   rw[vV]
   exact⟨l[i],va _,hp⟩
  rw[this];simp
end Go.Am
