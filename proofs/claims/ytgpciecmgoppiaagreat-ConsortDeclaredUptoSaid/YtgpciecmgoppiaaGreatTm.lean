/- Ascending lists: sorting and dropping equal neighbours comes to putting in one by one. -/
import Derived.Test.YtgpciecmgoppiaaGreatLq
import Derived.Lib.SlicesCompact
import Derived.Test.YtgpciecmgoppiaaGreatSo
set_option linter.all false
namespace Go.Am
open Go.RowKit
def qM(l:List Int):Prop:=l.Pairwise (· < ·)
theorem Jn: ∀{a b:List Int},qM a->qM b->(∀x,x∈a↔x∈b)->a=b
 | [],[],_,_,_=>rfl
 | [],y::b,_,_,h=>by have:=(h y).2 (by simp);cases this
 |x::a,[],_,_,h=>by have:=(h x).1 (by simp);cases this
 |x::a,y::b,ha,hb,h=>by
  obtain⟨a1,a2⟩:=Dt.1 ha;obtain⟨b1,b2⟩:=Dt.1 hb;have PH:x=y:=by
   rcases pU.1 ((h x).1 (by simp))with h1|h1
   ·exact h1
   ·rcases pU.1 ((h y).2 (by simp))with h2|h2
    ·exact h2.symm
    ·have:=b1 x h1;have:=a1 y h2;omega
  subst PH;congr 1;refine Jn a2 b2 λz=>⟨λhz=>?_,λhz=>?_⟩
  ·rcases pU.1 ((h z).1 (by simp[hz]))with h1|h1
   ·have:=a1 z hz;omega
   ·exact h1
  ·rcases pU.1 ((h z).2 (by simp[hz]))with h1|h1
   ·have:=b1 z hz;omega
   ·exact h1
theorem E4(zs:List Int)(x:Int):x∈Go.Lib.compact zs↔x∈zs:=by
 unfold Go.Lib.compact Go.Lib.compactUpTo;rw[mS];constructor
 ·grind
 ·intro hx;obtain⟨j,hj⟩:=List.getElem?_of_mem hx;have key: ∀(j:Nat)(x:Int),zs[j]? =some x-> ∃i,i∈(List.range zs.length).filter (Go.Lib.keeps zs.toArray)/\zs.toArray[i]! =x:=by
   intro j
   induction j with
   |zero=>
    intro x h;obtain⟨hl,h1⟩:=lf.1 h;refine⟨0,xQ.2 ⟨J2.2 hl,Go.Lib.keeps_lt_one _ 0 (by omega)⟩,?_⟩
    grind
   |succ j ih=>
    intro x h;obtain⟨hl,h1⟩:=lf.1 h;have e1:zs.toArray[j+1]! =x:=by grind
    by_cases hk:Go.Lib.keeps zs.toArray (j+1)=true
    ·grind
    ·have he:zs.toArray[j+1]! =zs.toArray[j]!:=by
      unfold Go.Lib.keeps at hk
      grind
     grind
  grind
theorem E5(zs:List Int)(h:zs.Pairwise (· <= ·)):qM (Go.Lib.compact zs):=by
 unfold Go.Lib.compact Go.Lib.compactUpTo qM;rw[L3];have hr:(List.range zs.length).Pairwise (· < ·):=List.pairwise_lt_range;refine(List.Pairwise.filter _ hr).imp_of_mem λ{i j}hi hj sL=>?_;have Wb:=J2.1 (xQ.1 hj).1;have hk:=(xQ.1 hj).2;unfold Go.Lib.keeps at hk;simp only[BW]at hk;have fG:zs.toArray[j]!≠zs.toArray[j-1]!:=by
  grind
 rw[Wt _ j (by grind),Wt _ (j-1) (by simp;omega)]at fG;rw[Wt _ j (by grind),Wt _ i (by simp;omega)];simp only[List.getElem_toArray]at fG |-
 have h1:=Tc.1 h (j-1) j (by omega) Wb (by omega);by_cases hi1:i=j-1
 ·grind
 ·have h2:=Tc.1 h i (j-1) (by omega) (by omega) (by omega);omega
theorem E6(zs:List Int):(Go.Lib.compact zs).length<=zs.length:=by
 unfold Go.Lib.compact Go.Lib.compactUpTo
 grind
def HG(x:Int):List Int->List Int
 | []=>[x]
 |y::r=>bif decide (x<=y)then x::y::r else y::HG x r
def kE:List Int->List Int
 | []=>[]
 |x::r=>HG x (kE r)
theorem vR(x:Int): ∀l:List Int,(HG x l).Perm (x::l)
 | []=>.refl _
 |y::r=>by
  unfold HG;cases decide (x<=y)
  ·exact((vR x r).cons y).trans (.swap x y r)
  ·exact .refl _
theorem pA: ∀l:List Int,(kE l).Perm l
 | []=>.refl _
 |x::r=>(vR x _).trans ((pA r).cons x)
theorem Jo(x:Int): ∀l:List Int,l.Pairwise (· <= ·)->(HG x l).Pairwise (· <= ·)
 | [],_=>by simp[HG]
 |y::r,h=>by
  unfold HG;have h':=Dt.1 h;by_cases c:x<=y
  ·simp only[c,ju,cP];exact Dt.2 ⟨λz hz=>by simp at hz;rcases hz with rfl|hz;exact c;exact Int.le_trans c (h'.1 z hz),h⟩
  ·simp only[c,fZ,dv];refine Dt.2 ⟨λz hz=>?_,Jo x r h'.2⟩;have:=(vR x r).mem_iff.1 hz;simp at this;rcases this with rfl|hz
   ·omega
   ·exact h'.1 z hz
theorem oK(l:List Int):(kE l).length=l.length:=(pA l).length_eq
theorem Lf(l:List Int)(x:Int):x∈kE l↔x∈l:=(pA l).mem_iff
theorem zD: ∀l:List Int,(kE l).Pairwise (· <= ·)
 | []=>by simp[kE]
 |x::r=>Jo x _ (zD r)
theorem E7(l:List Int):(l.mergeSort λx y=>decide (x<=y))=kE l:=by
 grind [List.Perm.eq_of_pairwise,zD,List.mergeSort_perm,pA,List.pairwise_mergeSort]
theorem E8{P:Program}{ρ:Go.Shelf.Ren}(L:Go.Proofs.Lays.n189 P ρ)(l:List Int)(h1:l.length<=4194304):
  dw P (ρ.f 189) [.ms 0 0 l.length] ⟨[(0,.cells 1 (l.map AV.i))],1⟩ λy t=>y=.dS []/\t=⟨[(0,.cells 1 ((kE l).map AV.i))],1⟩:=by
 grind [E7,EU]
def pZ(l:List Int)(n:Int):List Int:=bif l.any (λx=>decide (x=n))then l else l.filter (λx=>decide (x<n))++n::l.filter λx=>!decide (x<n)
theorem Jp{l:List Int}(h:qM l)(n:Int):qM (pZ l n)/\ ∀x,x∈pZ l n↔x=n\/x∈l:=by
 unfold pZ;cases ha:l.any (λx=>decide (x=n))with
 |true=>
  grind
 |false=>
  rw[dv];have hn: ∀x∈l,x≠n:=λx hx e=>by
   grind
  constructor
  ·refine Wu.2 ⟨h.filter _,Dt.2 ⟨λy hy=>?_,h.filter _⟩,λa P7 b hb=>?_⟩
   all_goals grind
  grind
theorem E9{l:List Int}(n:Int):(pZ l n).length<=l.length+1:=by
 unfold pZ;cases l.any (λx=>decide (x=n))with
 |true=>simp
 |false=>
  have:=(List.filter_append_perm (λx=>decide (x<n)) l).length_eq
  grind
theorem oL: ∀(l a:List Int),qM a->qM (l.foldl pZ a)/\ ∀x,x∈l.foldl pZ a↔x∈l\/x∈a
 | [],a,h=>⟨h,λx=>by simp⟩
 |y::l,a,h=>by
  obtain⟨h1,h2⟩:=Jp h y;obtain⟨h3,h4⟩:=oL l (pZ a y) h1;refine⟨h3,λx=>?_⟩;rw[VI,h4,h2];simp only[pU];constructor
  ·rintro(h|h|h)
   ·exact .inl (.inr h)
   ·exact .inl (.inl h)
   ·exact .inr h
  ·rintro((h|h)|h)
   ·exact .inr (.inl h)
   ·exact .inl h
   ·exact .inr (.inr h)
theorem Rv(l:List Int)(n:Int):Go.Lib.compact (kE (n::l))=l.foldl pZ [n]:=by
 obtain⟨h1,h2⟩:=oL l [n] (List.pairwise_singleton _ _);refine Jn (E5 _ (zD _)) h1 λx=>?_;simp_all[E4,Lf,or_comm]
end Go.Am
