/- Ascending lists: sorting and dropping equal neighbours comes to putting in one by one. -/
import Derived.Test.YtfdnjgoegamonaaGreatDoorLq
import Derived.Lib.SlicesCompact
import Derived.Test.YtfdnjgoegamonaaGreatDoorSo
set_option linter.all false
namespace Go.Am
open Go.RowKit
def tW(l:List Int):Prop:=l.Pairwise (· < ·)
theorem Ji: ∀{a b:List Int},tW a->tW b->(∀x,x∈a↔x∈b)->a=b
 | [],[],_,_,_=>rfl
 | [],y::b,_,_,h=>by have:=(h y).2 (by simp);cases this
 |x::a,[],_,_,h=>by have:=(h x).1 (by simp);cases this
 |x::a,y::b,ha,hb,h=>by
  obtain⟨a1,a2⟩:=Gc.1 ha;obtain⟨b1,b2⟩:=Gc.1 hb;have Ix:x=y:=by
   rcases mZ.1 ((h x).1 (by simp))with h1|h1
   ·exact h1
   ·rcases mZ.1 ((h y).2 (by simp))with h2|h2
    ·exact h2.symm
    ·have:=b1 x h1;have:=a1 y h2;omega
  subst Ix;congr 1;refine Ji a2 b2 λz=>⟨λhz=>?_,λhz=>?_⟩
  ·rcases mZ.1 ((h z).1 (by simp[hz]))with h1|h1
   ·have:=a1 z hz;omega
   ·exact h1
  ·rcases mZ.1 ((h z).2 (by simp[hz]))with h1|h1
   ·have:=b1 z hz;omega
   ·exact h1
theorem Fm(zs:List Int)(x:Int):x∈Go.Lib.compact zs↔x∈zs:=by
 unfold Go.Lib.compact Go.Lib.compactUpTo;rw[kl];constructor
 ·rintro⟨j,hj,rfl⟩;have NN:=Cg.1 (nT.1 hj).1;rw[Gb _ j (by simpa using NN)];simp
 ·intro hx;obtain⟨j,hj⟩:=List.getElem?_of_mem hx;have key: ∀(j:Nat)(x:Int),zs[j]? =some x-> ∃i,i∈(List.range zs.length).filter (Go.Lib.keeps zs.toArray)/\zs.toArray[i]! =x:=by
   intro j
   induction j with
   |zero=>
    intro x h;obtain⟨hl,h1⟩:=fT.1 h;refine⟨0,nT.2 ⟨Cg.2 hl,Go.Lib.keeps_lt_one _ 0 (by omega)⟩,?_⟩;rw[Gb _ 0 (by simpa using hl)];simpa using h1
   |succ j ih=>
    intro x h;obtain⟨hl,h1⟩:=fT.1 h;have e1:zs.toArray[j+1]! =x:=by rw[Gb _ (j+1) (by simpa using hl)];simpa using h1
    by_cases hk:Go.Lib.keeps zs.toArray (j+1)=true
    ·exact⟨j+1,nT.2 ⟨Cg.2 hl,hk⟩,e1⟩
    ·have he:zs.toArray[j+1]! =zs.toArray[j]!:=by
      unfold Go.Lib.keeps at hk;simp only[AE,not_or,Decidable.not_not,Ys]at hk;exact hk.2
     have vr:j<zs.length:=by omega
     have e2:zs.toArray[j]! =zs[j]:=by rw[Gb _ j (by simpa using vr)];simp
     exact ih x (by rw[dR vr];rw[<-e2,<-he,e1])
  obtain⟨i,h1,h2⟩:=key j x hj;exact⟨i,h1,h2⟩
theorem Fo(zs:List Int)(h:zs.Pairwise (· <= ·)):tW (Go.Lib.compact zs):=by
 unfold Go.Lib.compact Go.Lib.compactUpTo tW;rw[Ij];have hr:(List.range zs.length).Pairwise (· < ·):=List.pairwise_lt_range;refine(List.Pairwise.filter _ hr).imp_of_mem λ{i j}hi hj oI=>?_;have NN:=Cg.1 (nT.1 hj).1;have hk:=(nT.1 hj).2;unfold Go.Lib.keeps at hk;simp only[AE]at hk;have eU:zs.toArray[j]!≠zs.toArray[j-1]!:=by
  rcases hk with h1|h1
  ·omega
  ·exact h1
 rw[Gb _ j (by simpa using NN),Gb _ (j-1) (by simp;omega)]at eU;rw[Gb _ j (by simpa using NN),Gb _ i (by simp;omega)];simp only[List.getElem_toArray]at eU |-
 have h1:=D6.1 h (j-1) j (by omega) NN (by omega);by_cases hi1:i=j-1
 ·subst hi1;omega
 ·have h2:=D6.1 h i (j-1) (by omega) (by omega) (by omega);omega
theorem Fp(zs:List Int):(Go.Lib.compact zs).length<=zs.length:=by
 unfold Go.Lib.compact Go.Lib.compactUpTo;rw[nE];exact xz (tQ _ _) (by simp)
def HE(x:Int):List Int->List Int
 | []=>[x]
 |y::r=>bif decide (x<=y)then x::y::r else y::HE x r
def kI:List Int->List Int
 | []=>[]
 |x::r=>HE x (kI r)
theorem vY(x:Int): ∀l:List Int,(HE x l).Perm (x::l)
 | []=>.refl _
 |y::r=>by
  unfold HE;cases decide (x<=y)
  ·exact((vY x r).cons y).trans (.swap x y r)
  ·exact .refl _
theorem pW: ∀l:List Int,(kI l).Perm l
 | []=>.refl _
 |x::r=>(vY x _).trans ((pW r).cons x)
theorem Jj(x:Int): ∀l:List Int,l.Pairwise (· <= ·)->(HE x l).Pairwise (· <= ·)
 | [],_=>by simp[HE]
 |y::r,h=>by
  unfold HE;have h':=Gc.1 h;by_cases c:x<=y
  ·simp only[c,ij,dt];exact Gc.2 ⟨λz hz=>by simp at hz;rcases hz with rfl|hz;exact c;exact Int.le_trans c (h'.1 z hz),h⟩
  ·simp only[c,fq,dD];refine Gc.2 ⟨λz hz=>?_,Jj x r h'.2⟩;have:=(vY x r).mem_iff.1 hz;simp at this;rcases this with rfl|hz
   ·omega
   ·exact h'.1 z hz
theorem oY(l:List Int):(kI l).length=l.length:=(pW l).length_eq
theorem KP(l:List Int)(x:Int):x∈kI l↔x∈l:=(pW l).mem_iff
theorem zS: ∀l:List Int,(kI l).Pairwise (· <= ·)
 | []=>by simp[kI]
 |x::r=>Jj x _ (zS r)
theorem Fq(l:List Int):(l.mergeSort λx y=>decide (x<=y))=kI l:=by
 refine List.Perm.eq_of_pairwise (le:=(· <= ·)) (λa b _ _ h1 h2=>by omega) ?_ (zS l) ((ZQ l _).trans (pW l).symm);have:=ZP (le:=λx y:Int=>decide (x<=y)) (λa b c h1 h2=>by simp at *;omega) (λa b=>by simp;omega) l;exact this.imp λh=>by simpa using h
theorem Fs{P:Program}{ρ:Go.Shelf.Ren}(L:Go.Proofs.Lays.n189 P ρ)(l:List Int)(h1:l.length<=4194304):
  dQ P (ρ.f 189) [.ms 0 0 l.length] ⟨[(0,.cells 1 (l.map AV.i))],1⟩ λy t=>y=.eC []/\t=⟨[(0,.cells 1 ((kI l).map AV.i))],1⟩:=by
 rw[<-Fq];exact Ff L l h1
def vZ(l:List Int)(n:Int):List Int:=bif l.any (λx=>decide (x=n))then l else l.filter (λx=>decide (x<n))++n::l.filter λx=>!decide (x<n)
theorem QN{l:List Int}(h:tW l)(n:Int):tW (vZ l n)/\ ∀x,x∈vZ l n↔x=n\/x∈l:=by
 unfold vZ;cases ha:l.any (λx=>decide (x=n))with
 |true=>
  rw[dt];obtain⟨y,h1,h2⟩:=AO.1 ha;simp only[AE]at h2;subst h2;exact⟨h,λx=>⟨λhx=>.inr hx,λhx=>by rcases hx with rfl|hx<;>assumption⟩⟩
 |false=>
  rw[dD];have hn: ∀x∈l,x≠n:=λx hx e=>by
   have:=Vf.1 ha x hx;simp[e]at this
  constructor
  ·refine Yt.2 ⟨h.filter _,Gc.2 ⟨λy hy=>?_,h.filter _⟩,λa LI b hb=>?_⟩
   ·obtain⟨h1,h2⟩:=nT.1 hy;have:=hn y h1;simp at h2;omega
   ·obtain⟨h1,h2⟩:=nT.1 LI;simp only[AE]at h2;rcases mZ.1 hb with rfl|hb
    ·exact h2
    ·obtain⟨h3,h4⟩:=nT.1 hb;simp at h4;omega
  ·intro x;simp only[lT,mZ,nT];constructor
   ·rintro(h1|h1|h1)
    ·exact .inr h1.1
    ·exact .inl h1
    ·exact .inr h1.1
   ·rintro(h1|h1)
    ·exact .inr (.inl h1)
    ·by_cases hx:x<n
     ·exact .inl ⟨h1,by simpa using hx⟩
     ·exact .inr (.inr ⟨h1,by simpa using hx⟩)
theorem NU{l:List Int}(n:Int):(vZ l n).length<=l.length+1:=by
 unfold vZ;cases l.any (λx=>decide (x=n))with
 |true=>simp
 |false=>
  have:=(List.filter_append_perm (λx=>decide (x<n)) l).length_eq;simp only[dD,lu,oC]at this |-
  omega
theorem rZ: ∀(l a:List Int),tW a->tW (l.foldl vZ a)/\ ∀x,x∈l.foldl vZ a↔x∈l\/x∈a
 | [],a,h=>⟨h,λx=>by simp⟩
 |y::l,a,h=>by
  obtain⟨h1,h2⟩:=QN h y;obtain⟨h3,h4⟩:=rZ l (vZ a y) h1;refine⟨h3,λx=>?_⟩;rw[Sz,h4,h2];simp only[mZ];constructor
  ·rintro(h|h|h)
   ·exact .inl (.inr h)
   ·exact .inl (.inl h)
   ·exact .inr h
  ·rintro((h|h)|h)
   ·exact .inr (.inl h)
   ·exact .inl h
   ·exact .inr (.inr h)
theorem QO(l:List Int)(n:Int):Go.Lib.compact (kI (n::l))=l.foldl vZ [n]:=by
 obtain⟨h1,h2⟩:=rZ l [n] (List.pairwise_singleton _ _);refine Ji (Fo _ (zS _)) h1 λx=>?_;rw[Fm,KP,h2];simp only[mZ,List.not_mem_nil,or_false];exact or_comm
end Go.Am
