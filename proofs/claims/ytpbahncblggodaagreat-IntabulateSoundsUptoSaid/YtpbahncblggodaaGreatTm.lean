/- Ascending lists: sorting and dropping equal neighbours comes to putting in one by one. -/
import Derived.Test.YtpbahncblggodaaGreatLq
import Derived.Lib.SlicesCompact
import Derived.Test.YtpbahncblggodaaGreatSo
set_option linter.all false
namespace Go.Am
open Go.RowKit
def qf(l:List Int):Prop:=l.Pairwise (· < ·)
theorem Ip: ∀{a b:List Int},qf a->qf b->(∀x,x∈a↔x∈b)->a=b
 | [],[],_,_,_=>rfl
 | [],y::b,_,_,h=>by have:=(h y).2 (by simp);cases this
 |x::a,[],_,_,h=>by have:=(h x).1 (by simp);cases this
 |x::a,y::b,ha,hb,h=>by
  obtain⟨a1,a2⟩:=CG.1 ha
  obtain⟨b1,b2⟩:=CG.1 hb
  have GY:x=y:=by
   rcases mB.1 ((h x).1 (by simp))with h1|h1
   ·exact h1
   ·rcases mB.1 ((h y).2 (by simp))with h2|h2
    ·exact h2.symm
    ·have:=b1 x h1
     have:=a1 y h2
     omega
  subst GY
  congr 1
  refine Ip a2 b2 λz=>⟨λhz=>?_,λhz=>?_⟩
  ·rcases mB.1 ((h z).1 (by simp[hz]))with h1|h1
   ·have:=a1 z hz;omega
   ·exact h1
  ·rcases mB.1 ((h z).2 (by simp[hz]))with h1|h1
   ·have:=b1 z hz;omega
   ·exact h1
theorem EE(zs:List Int)(x:Int):x∈Go.Lib.compact zs↔x∈zs:=by
 unfold Go.Lib.compact Go.Lib.compactUpTo
 rw[kb]
 constructor
 ·rintro⟨j,hj,rfl⟩
  have J7:=Bd.1 (mC.1 hj).1
  rw[getElem!_pos _ j (by simpa using J7)]
  simp
 ·intro hx
  obtain⟨j,hj⟩:=List.getElem?_of_mem hx
  have key: ∀(j:Nat)(x:Int),zs[j]? =some x-> ∃i,i∈(List.range zs.length).filter (Go.Lib.keeps zs.toArray)/\zs.toArray[i]! =x:=by
   intro j
   induction j with
   |zero=>
    intro x h
    obtain⟨hl,h1⟩:=fM.1 h
    refine⟨0,mC.2 ⟨Bd.2 hl,Go.Lib.keeps_lt_one _ 0 (by omega)⟩,?_⟩
    rw[getElem!_pos _ 0 (by simpa using hl)]
    simpa using h1
   |succ j ih=>
    intro x h
    obtain⟨hl,h1⟩:=fM.1 h
    have e1:zs.toArray[j+1]! =x:=by rw[getElem!_pos _ (j+1) (by simpa using hl)];simpa using h1
    by_cases hk:Go.Lib.keeps zs.toArray (j+1)=true
    ·exact⟨j+1,mC.2 ⟨Bd.2 hl,hk⟩,e1⟩
    ·have he:zs.toArray[j+1]! =zs.toArray[j]!:=by
      unfold Go.Lib.keeps at hk
      simp only[decide_eq_true_eq,not_or,Decidable.not_not,WT]at hk
      exact hk.2
     have uv:j<zs.length:=by omega
     have e2:zs.toArray[j]! =zs[j]:=by rw[getElem!_pos _ j (by simpa using uv)];simp
     exact ih x (by rw[dC uv];rw[<-e2,<-he,e1])
  obtain⟨i,h1,h2⟩:=key j x hj
  exact⟨i,h1,h2⟩
theorem EF(zs:List Int)(h:zs.Pairwise (· <= ·)):qf (Go.Lib.compact zs):=by
 unfold Go.Lib.compact Go.Lib.compactUpTo qf
 rw[GJ]
 have hr:(List.range zs.length).Pairwise (· < ·):=List.pairwise_lt_range
 refine(List.Pairwise.filter _ hr).imp_of_mem λ{i j}hi hj pz=>?_
 have J7:=Bd.1 (mC.1 hj).1
 have hk:=(mC.1 hj).2
 unfold Go.Lib.keeps at hk
 simp only[decide_eq_true_eq]at hk
 have eJ:zs.toArray[j]!≠zs.toArray[j-1]!:=by
  rcases hk with h1|h1
  ·omega
  ·exact h1
 rw[getElem!_pos _ j (by simpa using J7),getElem!_pos _ (j-1) (by simp;omega)]at eJ
 rw[getElem!_pos _ j (by simpa using J7),getElem!_pos _ i (by simp;omega)]
 simp only[List.getElem_toArray]at eJ |-
 have h1:=EN.1 h (j-1) j (by omega) J7 (by omega)
 by_cases ZX:i=j-1
 ·subst ZX;omega
 ·have h2:=EN.1 h i (j-1) (by omega) (by omega) (by omega)
  omega
theorem EB(zs:List Int):(Go.Lib.compact zs).length<=zs.length:=by
 unfold Go.Lib.compact Go.Lib.compactUpTo
 rw[mA]
 exact vS (sM _ _) (by simp)
def GB(x:Int):List Int->List Int
 | []=>[x]
 |y::r=>bif decide (x<=y)then x::y::r else y::GB x r
def jX:List Int->List Int
 | []=>[]
 |x::r=>GB x (jX r)
theorem vo(x:Int): ∀l:List Int,(GB x l).Perm (x::l)
 | []=>.refl _
 |y::r=>by
  unfold GB
  cases decide (x<=y)
  ·exact((vo x r).cons y).trans (.swap x y r)
  ·exact .refl _
theorem oW: ∀l:List Int,(jX l).Perm l
 | []=>.refl _
 |x::r=>(vo x _).trans ((oW r).cons x)
theorem Iq(x:Int): ∀l:List Int,l.Pairwise (· <= ·)->(GB x l).Pairwise (· <= ·)
 | [],_=>by simp[GB]
 |y::r,h=>by
  unfold GB
  have h':=CG.1 h
  by_cases c:x<=y
  ·simp only[c,decide_true,cond_true]
   exact CG.2 ⟨λz hz=>by simp at hz;rcases hz with rfl|hz;exact c;exact Int.le_trans c (h'.1 z hz),h⟩
  ·simp only[c,decide_false,cond_false]
   refine CG.2 ⟨λz hz=>?_,Iq x r h'.2⟩
   have:=(vo x r).mem_iff.1 hz
   simp at this
   rcases this with rfl|hz
   ·omega
   ·exact h'.1 z hz
theorem nP(l:List Int):(jX l).length=l.length:=(oW l).length_eq
theorem JN(l:List Int)(x:Int):x∈jX l↔x∈l:=(oW l).mem_iff
theorem ze: ∀l:List Int,(jX l).Pairwise (· <= ·)
 | []=>by simp[jX]
 |x::r=>Iq x _ (ze r)
theorem EG(l:List Int):(l.mergeSort λx y=>decide (x<=y))=jX l:=by
 refine List.Perm.eq_of_pairwise (le:=(· <= ·)) (λa b _ _ h1 h2=>by omega) ?_ (ze l) ((Yf l _).trans (oW l).symm)
 have:=Yg (le:=λx y:Int=>decide (x<=y)) (λa b c h1 h2=>by simp at *;omega) (λa b=>by simp;omega) l
 exact this.imp λh=>by simpa using h
theorem EA{P:Program}{ρ:Go.Shelf.Ren}(L:Go.Proofs.Lays.n189 P ρ)(l:List Int)(h1:l.length<=4194304):
  dJ P (ρ.f 189) [.ms 0 0 l.length] ⟨[(0,.cells 1 (l.map AV.i))],1⟩ λy t=>y=.dW []/\t=⟨[(0,.cells 1 ((jX l).map AV.i))],1⟩:=by
 rw[<-EG]
 exact Eo L l h1
def oM(l:List Int)(n:Int):List Int:=bif l.any (λx=>decide (x=n))then l else l.filter (λx=>decide (x<n))++n::l.filter λx=>!decide (x<n)
theorem HO{l:List Int}(h:qf l)(n:Int):qf (oM l n)/\ ∀x,x∈oM l n↔x=n\/x∈l:=by
 unfold oM
 cases ha:l.any (λx=>decide (x=n))with
 |true=>
  rw[cond_true]
  obtain⟨y,h1,h2⟩:=w9.1 ha
  simp only[decide_eq_true_eq]at h2
  subst h2
  exact⟨h,λx=>⟨λhx=>.inr hx,λhx=>by rcases hx with rfl|hx<;>assumption⟩⟩
 |false=>
  rw[cond_false]
  have hn: ∀x∈l,x≠n:=λx hx e=>by
   have:=Ny.1 ha x hx
   simp[e]at this
  constructor
  ·refine WW.2 ⟨h.filter _,CG.2 ⟨λy hy=>?_,h.filter _⟩,λa Kg b hb=>?_⟩
   ·obtain⟨h1,h2⟩:=mC.1 hy
    have:=hn y h1
    simp at h2;omega
   ·obtain⟨h1,h2⟩:=mC.1 Kg
    simp only[decide_eq_true_eq]at h2
    rcases mB.1 hb with rfl|hb
    ·exact h2
    ·obtain⟨h3,h4⟩:=mC.1 hb
     simp at h4;omega
  ·intro x
   simp only[la,mB,mC]
   constructor
   ·rintro(h1|h1|h1)
    ·exact .inr h1.1
    ·exact .inl h1
    ·exact .inr h1.1
   ·rintro(h1|h1)
    ·exact .inr (.inl h1)
    ·by_cases hx:x<n
     ·exact .inl ⟨h1,by simpa using hx⟩
     ·exact .inr (.inr ⟨h1,by simpa using hx⟩)
theorem DX{l:List Int}(n:Int):(oM l n).length<=l.length+1:=by
 unfold oM
 cases l.any (λx=>decide (x=n))with
 |true=>simp
 |false=>
  have:=(List.filter_append_perm (λx=>decide (x<n)) l).length_eq
  simp only[cond_false,kc,oc]at this |-
  omega
theorem nQ: ∀(l a:List Int),qf a->qf (l.foldl oM a)/\ ∀x,x∈l.foldl oM a↔x∈l\/x∈a
 | [],a,h=>⟨h,λx=>by simp⟩
 |y::l,a,h=>by
  obtain⟨h1,h2⟩:=HO h y
  obtain⟨h3,h4⟩:=nQ l (oM a y) h1
  refine⟨h3,λx=>?_⟩
  rw[QV,h4,h2]
  simp only[mB]
  constructor
  ·rintro(h|h|h)
   ·exact .inl (.inr h)
   ·exact .inl (.inl h)
   ·exact .inr h
  ·rintro((h|h)|h)
   ·exact .inr (.inl h)
   ·exact .inl h
   ·exact .inr (.inr h)
theorem Pe(l:List Int)(n:Int):Go.Lib.compact (jX (n::l))=l.foldl oM [n]:=by
 obtain⟨h1,h2⟩:=nQ l [n] (List.pairwise_singleton _ _)
 refine Ip (EF _ (ze _)) h1 λx=>?_
 rw[EE,JN,h2]
 simp only[mB,List.not_mem_nil,or_false]
 exact or_comm
end Go.Am
