/- Ascending lists: sorting and dropping equal neighbours comes to putting in one by one. -/
import Derived.Test.YtpbahncblggodaaGreatLq
import Derived.Lib.SlicesCompact
import Derived.Test.YtpbahncblggodaaGreatSo
set_option linter.all false
namespace Go.Am
open Go.RowKit
def qF(l:List Int):Prop:=l.Pairwise (· < ·)
theorem Ja: ∀{a b:List Int},qF a->qF b->(∀x,x∈a↔x∈b)->a=b
 | [],[],_,_,_=>rfl
 | [],y::b,_,_,h=>by have:=(h y).2 (by simp);cases this
 |x::a,[],_,_,h=>by have:=(h x).1 (by simp);cases this
 |x::a,y::b,ha,hb,h=>by
  obtain⟨a1,a2⟩:=Dr.1 ha
  obtain⟨b1,b2⟩:=Dr.1 hb
  have Ca:x=y:=by
   rcases mU.1 ((h x).1 (by simp))with h1|h1
   ·exact h1
   ·rcases mU.1 ((h y).2 (by simp))with h2|h2
    ·exact h2.symm
    ·have:=b1 x h1
     have:=a1 y h2
     omega
  subst Ca
  congr 1
  refine Ja a2 b2 λz=>⟨λhz=>?_,λhz=>?_⟩
  ·rcases mU.1 ((h z).1 (by simp[hz]))with h1|h1
   ·have:=a1 z hz;omega
   ·exact h1
  ·rcases mU.1 ((h z).2 (by simp[hz]))with h1|h1
   ·have:=b1 z hz;omega
   ·exact h1
theorem Fu(zs:List Int)(x:Int):x∈Go.Lib.compact zs↔x∈zs:=by
 unfold Go.Lib.compact Go.Lib.compactUpTo
 rw[jJ]
 constructor
 ·rintro⟨j,hj,rfl⟩
  have KR:=AN.1 (lD.1 hj).1
  rw[FC _ j (by simpa using KR)]
  simp
 ·intro hx
  obtain⟨j,hj⟩:=List.getElem?_of_mem hx
  have key: ∀(j:Nat)(x:Int),zs[j]? =some x-> ∃i,i∈(List.range zs.length).filter (Go.Lib.keeps zs.toArray)/\zs.toArray[i]! =x:=by
   intro j
   induction j with
   |zero=>
    intro x h
    obtain⟨hl,h1⟩:=fP.1 h
    refine⟨0,lD.2 ⟨AN.2 hl,Go.Lib.keeps_lt_one _ 0 (by omega)⟩,?_⟩
    rw[FC _ 0 (by simpa using hl)]
    simpa using h1
   |succ j ih=>
    intro x h
    obtain⟨hl,h1⟩:=fP.1 h
    have e1:zs.toArray[j+1]! =x:=by rw[FC _ (j+1) (by simpa using hl)];simpa using h1
    by_cases hk:Go.Lib.keeps zs.toArray (j+1)=true
    ·exact⟨j+1,lD.2 ⟨AN.2 hl,hk⟩,e1⟩
    ·have he:zs.toArray[j+1]! =zs.toArray[j]!:=by
      unfold Go.Lib.keeps at hk
      simp only[xL,not_or,Decidable.not_not,XI]at hk
      exact hk.2
     have uT:j<zs.length:=by omega
     have e2:zs.toArray[j]! =zs[j]:=by rw[FC _ j (by simpa using uT)];simp
     exact ih x (by rw[dH uT];rw[<-e2,<-he,e1])
  obtain⟨i,h1,h2⟩:=key j x hj
  exact⟨i,h1,h2⟩
theorem Fv(zs:List Int)(h:zs.Pairwise (· <= ·)):qF (Go.Lib.compact zs):=by
 unfold Go.Lib.compact Go.Lib.compactUpTo qF
 rw[FB]
 have hr:(List.range zs.length).Pairwise (· < ·):=List.pairwise_lt_range
 refine(List.Pairwise.filter _ hr).imp_of_mem λ{i j}hi hj oT=>?_
 have KR:=AN.1 (lD.1 hj).1
 have hk:=(lD.1 hj).2
 unfold Go.Lib.keeps at hk
 simp only[xL]at hk
 have eV:zs.toArray[j]!≠zs.toArray[j-1]!:=by
  rcases hk with h1|h1
  ·omega
  ·exact h1
 rw[FC _ j (by simpa using KR),FC _ (j-1) (by simp;omega)]at eV
 rw[FC _ j (by simpa using KR),FC _ i (by simp;omega)]
 simp only[List.getElem_toArray]at eV |-
 have h1:=DD.1 h (j-1) j (by omega) KR (by omega)
 by_cases hi1:i=j-1
 ·subst hi1;omega
 ·have h2:=DD.1 h i (j-1) (by omega) (by omega) (by omega)
  omega
theorem Fq(zs:List Int):(Go.Lib.compact zs).length<=zs.length:=by
 unfold Go.Lib.compact Go.Lib.compactUpTo
 rw[mB]
 exact vU (sq _ _) (by simp)
def Ht(x:Int):List Int->List Int
 | []=>[x]
 |y::r=>bif decide (x<=y)then x::y::r else y::Ht x r
def kr:List Int->List Int
 | []=>[]
 |x::r=>Ht x (kr r)
theorem vT(x:Int): ∀l:List Int,(Ht x l).Perm (x::l)
 | []=>.refl _
 |y::r=>by
  unfold Ht
  cases decide (x<=y)
  ·exact((vT x r).cons y).trans (.swap x y r)
  ·exact .refl _
theorem pF: ∀l:List Int,(kr l).Perm l
 | []=>.refl _
 |x::r=>(vT x _).trans ((pF r).cons x)
theorem Jb(x:Int): ∀l:List Int,l.Pairwise (· <= ·)->(Ht x l).Pairwise (· <= ·)
 | [],_=>by simp[Ht]
 |y::r,h=>by
  unfold Ht
  have h':=Dr.1 h
  by_cases c:x<=y
  ·simp only[c,gp,cS]
   exact Dr.2 ⟨λz hz=>by simp at hz;rcases hz with rfl|hz;exact c;exact Int.le_trans c (h'.1 z hz),h⟩
  ·simp only[c,dX,dj]
   refine Dr.2 ⟨λz hz=>?_,Jb x r h'.2⟩
   have:=(vT x r).mem_iff.1 hz
   simp at this
   rcases this with rfl|hz
   ·omega
   ·exact h'.1 z hz
theorem ou(l:List Int):(kr l).length=l.length:=(pF l).length_eq
theorem Kw(l:List Int)(x:Int):x∈kr l↔x∈l:=(pF l).mem_iff
theorem zU: ∀l:List Int,(kr l).Pairwise (· <= ·)
 | []=>by simp[kr]
 |x::r=>Jb x _ (zU r)
theorem Fw(l:List Int):(l.mergeSort λx y=>decide (x<=y))=kr l:=by
 refine List.Perm.eq_of_pairwise (le:=(· <= ·)) (λa b _ _ h1 h2=>by omega) ?_ (zU l) ((Y4 l _).trans (pF l).symm)
 have:=Y5 (le:=λx y:Int=>decide (x<=y)) (λa b c h1 h2=>by simp at *;omega) (λa b=>by simp;omega) l
 exact this.imp λh=>by simpa using h
theorem Fp{P:Program}{ρ:Go.Shelf.Ren}(L:Go.Proofs.Lays.n189 P ρ)(l:List Int)(h1:l.length<=4194304):
  dQ P (ρ.f 189) [.ms 0 0 l.length] ⟨[(0,.cells 1 (l.map AV.i))],1⟩ λy t=>y=.ec []/\t=⟨[(0,.cells 1 ((kr l).map AV.i))],1⟩:=by
 rw[<-Fw]
 exact Fc L l h1
def pn(l:List Int)(n:Int):List Int:=bif l.any (λx=>decide (x=n))then l else l.filter (λx=>decide (x<n))++n::l.filter λx=>!decide (x<n)
theorem IC{l:List Int}(h:qF l)(n:Int):qF (pn l n)/\ ∀x,x∈pn l n↔x=n\/x∈l:=by
 unfold pn
 cases ha:l.any (λx=>decide (x=n))with
 |true=>
  rw[cS]
  obtain⟨y,h1,h2⟩:=vV.1 ha
  simp only[xL]at h2
  subst h2
  exact⟨h,λx=>⟨λhx=>.inr hx,λhx=>by rcases hx with rfl|hx<;>assumption⟩⟩
 |false=>
  rw[dj]
  have hn: ∀x∈l,x≠n:=λx hx e=>by
   have:=KA.1 ha x hx
   simp[e]at this
  constructor
  ·refine Va.2 ⟨h.filter _,Dr.2 ⟨λy hy=>?_,h.filter _⟩,λa K9 b hb=>?_⟩
   ·obtain⟨h1,h2⟩:=lD.1 hy
    have:=hn y h1
    simp at h2;omega
   ·obtain⟨h1,h2⟩:=lD.1 K9
    simp only[xL]at h2
    rcases mU.1 hb with rfl|hb
    ·exact h2
    ·obtain⟨h3,h4⟩:=lD.1 hb
     simp at h4;omega
  ·intro x
   simp only[lr,mU,lD]
   constructor
   ·rintro(h1|h1|h1)
    ·exact .inr h1.1
    ·exact .inl h1
    ·exact .inr h1.1
   ·rintro(h1|h1)
    ·exact .inr (.inl h1)
    ·by_cases hx:x<n
     ·exact .inl ⟨h1,by simpa using hx⟩
     ·exact .inr (.inr ⟨h1,by simpa using hx⟩)
theorem EI{l:List Int}(n:Int):(pn l n).length<=l.length+1:=by
 unfold pn
 cases l.any (λx=>decide (x=n))with
 |true=>simp
 |false=>
  have:=(List.filter_append_perm (λx=>decide (x<n)) l).length_eq
  simp only[dj,jW,oG]at this |-
  omega
theorem ow: ∀(l a:List Int),qF a->qF (l.foldl pn a)/\ ∀x,x∈l.foldl pn a↔x∈l\/x∈a
 | [],a,h=>⟨h,λx=>by simp⟩
 |y::l,a,h=>by
  obtain⟨h1,h2⟩:=IC h y
  obtain⟨h3,h4⟩:=ow l (pn a y) h1
  refine⟨h3,λx=>?_⟩
  rw[RP,h4,h2]
  simp only[mU]
  constructor
  ·rintro(h|h|h)
   ·exact .inl (.inr h)
   ·exact .inl (.inl h)
   ·exact .inr h
  ·rintro((h|h)|h)
   ·exact .inr (.inl h)
   ·exact .inl h
   ·exact .inr (.inr h)
theorem P0(l:List Int)(n:Int):Go.Lib.compact (kr (n::l))=l.foldl pn [n]:=by
 obtain⟨h1,h2⟩:=ow l [n] (List.pairwise_singleton _ _)
 refine Ja (Fv _ (zU _)) h1 λx=>?_
 rw[Fu,Kw,h2]
 simp only[mU,List.not_mem_nil,or_false]
 exact or_comm
end Go.Am
