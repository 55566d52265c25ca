/-
  Plain laws, part 1: loops as folds with an early end.
  Own work. No Go text.
-/
import Derived.Test.YtpbahncblggodaaGreatAm31
set_option linter.all false
namespace Go.Am
open Go.RowKit
def foldE{α A τ:Type}(step:Nat->A->α->A⊕τ)(fin:A->τ):Nat->List α->A->τ
 |_,[],a=>fin a
 |k,y::r,a=>match step k a y with
  |.inl a'=>foldE step fin (k+1) r a'
  |.inr t=>t
def stepW{A σ τ:Type}(mk:A->Int->σ)(i:Nat):A⊕τ->σ⊕τ
 |.inl a=>.inl (mk a (i+1:Nat))
 |.inr t=>.inr t
theorem loop_fold_at{α A σ τ:Type}{body:σ->Option (σ⊕τ)}(mk:A->Int->σ)(step:Nat->A->α->A⊕τ)(fin:A->τ)(l:List α)(Inv:Nat->A->Prop)
  (hb: ∀(i:Nat)a y,l[i]? =some y->Inv i a->body (mk a i)=some (stepW mk i (step i a y))/\ ∀a',step i a y=.inl a'->Inv (i+1) a')
  (he: ∀a,Inv l.length a->body (mk a (l.length:Nat))=some (.inr (fin a))):
  ∀(r:List α)(k:Nat)(n:Nat)(a:A),l.drop k=r->k<=l.length->r.length<n->Inv k a->loopN body n (mk a k)=some (foldE step fin k r a):=by
 intro r
 induction r with
 |nil=>
  intro k n a hd hk hn hi
  have hkl:k=l.length:=by have:=List.drop_eq_nil_iff.1 hd;omega
  subst hkl
  cases n with
  |zero=>simp at hn
  |succ n=>simp only[loopN,he a hi,foldE]
 |cons y r ih=>
  intro k n a hd hk hn hi
  have hy:l[k]? =some y:=by
   have:=congrArg (·[0]?) hd
   simpa using this
  have hd':l.drop (k+1)=r:=by
   have:=congrArg (List.drop 1) hd
   simpa[List.drop_drop]using this
  cases n with
  |zero=>simp at hn
  |succ n=>
   obtain⟨h1,h2⟩:=hb k a y hy hi
   simp only[loopN,h1,foldE]
   cases hs:step k a y with
   |inl a'=>
    simp only[stepW]
    have hlt:=(List.getElem?_eq_some_iff.1 hy).1
    exact ih (k+1) n a' hd' hlt (by simp at hn;omega) (h2 a' hs)
   |inr t=>rfl
theorem loop_fold{α A σ τ:Type}{body:σ->Option (σ⊕τ)}(mk:A->Int->σ)(step:Nat->A->α->A⊕τ)(fin:A->τ)(l:List α)(Inv:Nat->A->Prop)(a:A){n:Nat}(hn:l.length<n)(hi:Inv 0 a)
  (hb: ∀(i:Nat)a y,l[i]? =some y->Inv i a->body (mk a i)=some (stepW mk i (step i a y))/\ ∀a',step i a y=.inl a'->Inv (i+1) a')
  (he: ∀a,Inv l.length a->body (mk a (l.length:Nat))=some (.inr (fin a))):loopN body n (mk a 0)=some (foldE step fin 0 l a):=
 loop_fold_at mk step fin l Inv hb he l 0 n a rfl (Nat.zero_le _) hn hi
abbrev Small{α:Type}(l:List α):Prop:=l.length<=4194304
theorem wr64{n:Int}(h1: -9223372036854775808<=n)(h2:n<=9223372036854775807):wr n=n:=w64 h1 h2
theorem wrNat{i:Nat}(h:i<=4194304):wr ((i:Int)+1)=((i+1:Nat):Int):=by rw[wr64 (by omega) (by omega)];omega
section
variable {α:Type} {l:List α} {i:Nat} {y:α}
theorem ixNat(h:l[i]? =some y):ix l (i:Int)=some y:=by simp[ix,h]
theorem ltLen(h:l[i]? =some y):(i:Int)<(l.length:Int):=by have:=(List.getElem?_eq_some_iff.1 h).1;omega
theorem wrLen(hs:Small l)(h:l[i]? =some y):wr ((i:Int)+1)=((i+1:Nat):Int):=wrNat (by have:=(List.getElem?_eq_some_iff.1 h).1;simp only[Small]at hs;omega)
theorem dltLen(h:l[i]? =some y):decide ((i:Int)<(l.length:Int))=true:=by simpa using ltLen h
theorem small_fuel(hs:Small l):l.length<FUEL:=by simp only[Small]at hs;unfold FUEL;omega
end
def findS{α τ:Type}(p:α->Bool)(R:Nat->α->τ):Nat->List α->Unit⊕τ
 |_,[]=>.inl ()
 |k,y::r=>bif p y then .inr (R k y)else findS p R (k+1) r
theorem loop_find{α τ:Type}{body:Int->Option (Int⊕(Unit⊕τ))}(l:List α)(p:α->Bool)(R:Nat->α->τ)(hs:Small l)
  (hb: ∀(i:Nat)y,l[i]? =some y->body i=some (bif p y then .inr (.inr (R i y))else .inl (wr ((i:Int)+1)))) (he:body (l.length:Nat)=some (.inr (.inl ()))):
  loopN body FUEL 0=some (findS p R 0 l):=by
 have h:=loop_fold (body:=body) (λ(_:Unit)i=>i) (λk _ y=>bif p y then .inr (.inr (R k y))else .inl ()) (λ_=>.inl ()) l (λ_ _=>True) () (small_fuel hs) trivial
  (λi _ y hy _=>⟨by rw[hb i y hy,wrLen hs hy];cases p y<;>rfl,λ_ _=>trivial⟩) (λ_ _=>he)
 rw[h]
 have key: ∀(r:List α)(k:Nat),foldE (τ:=Unit⊕τ) (λk(_:Unit)y=>bif p y then .inr (.inr (R k y))else .inl ()) (λ_=>.inl ()) k r ()=findS p R k r:=by
  intro r
  induction r with
  |nil=>intro k;rfl
  |cons y r ih=>intro k;simp only[foldE,findS];cases p y<;>simp[ih]
 rw[key]
theorem findS_any{α τ:Type}{p:α->Bool}(c:τ): ∀(k:Nat)(l:List α),findS p (λ_ _=>c) k l=bif l.any p then .inr c else .inl ()
 |_,[]=>rfl
 |k,y::r=>by
  simp only[findS,List.any_cons,findS_any c (k+1) r]
  cases p y<;>rfl
def idxF{α:Type}(p:α->Bool)(l:List α):Int:=match l.findIdx? p with
 |some i=>i
 |none=> -1
theorem findS_idx{α:Type}{p:α->Bool}: ∀(k:Nat)(l:List α),findS p (λi _=>(i:Int)) k l=match l.findIdx? p with
  |some i=>.inr ((k+i:Nat):Int)
  |none=>.inl ()
 |_,[]=>rfl
 |k,y::r=>by
  simp only[findS,List.findIdx?_cons,findS_idx (k+1) r]
  cases p y with
  |true=>simp
  |false=>
   cases r.findIdx? p with
   |none=>simp
   |some i=>simp;omega
theorem idxF_nonneg{α:Type}{p:α->Bool}{l:List α}:decide (0<=idxF p l)=l.any p:=by
 unfold idxF
 cases h:l.findIdx? p with
 |none=>
  have:l.any p=false:=by
   rw[List.findIdx?_eq_none_iff]at h
   rw[List.any_eq_false]
   intro x hx;simp[h x hx]
  rw[this];simp
 |some i=>
  have:l.any p=true:=by
   obtain⟨hlt,hp,_⟩:=List.findIdx?_eq_some_iff_getElem.1 h
   rw[List.any_eq_true]
   exact⟨l[i],List.getElem_mem _,hp⟩
  rw[this];simp
end Go.Am
