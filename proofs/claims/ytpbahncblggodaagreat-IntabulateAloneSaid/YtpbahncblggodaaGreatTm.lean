/-
  Ascending lists: sorting and dropping equal neighbours comes to putting in one by one.
  Own work. No Go text.
-/
import Derived.Test.YtpbahncblggodaaGreatLq
import Derived.Lib.SlicesCompact
import Derived.Test.YtpbahncblggodaaGreatSo
set_option linter.all false
namespace Go.Am
open Go.RowKit
def asc(l:List Int):Prop:=l.Pairwise (· < ·)
theorem asc_ext: ∀{a b:List Int},asc a->asc b->(∀x,x∈a↔x∈b)->a=b
 | [],[],_,_,_=>rfl
 | [],y::b,_,_,h=>by have:=(h y).2 (by simp);cases this
 |x::a,[],_,_,h=>by have:=(h x).1 (by simp);cases this
 |x::a,y::b,ha,hb,h=>by
  obtain⟨a1,a2⟩:=List.pairwise_cons.1 ha
  obtain⟨b1,b2⟩:=List.pairwise_cons.1 hb
  have hxy:x=y:=by
   rcases List.mem_cons.1 ((h x).1 (by simp))with h1|h1
   ·exact h1
   ·rcases List.mem_cons.1 ((h y).2 (by simp))with h2|h2
    ·exact h2.symm
    ·have:=b1 x h1
     have:=a1 y h2
     omega
  subst hxy
  congr 1
  refine asc_ext a2 b2 λz=>⟨λhz=>?_,λhz=>?_⟩
  ·rcases List.mem_cons.1 ((h z).1 (by simp[hz]))with h1|h1
   ·have:=a1 z hz;omega
   ·exact h1
  ·rcases List.mem_cons.1 ((h z).2 (by simp[hz]))with h1|h1
   ·have:=b1 z hz;omega
   ·exact h1
theorem compact_mem(zs:List Int)(x:Int):x∈Go.Lib.compact zs↔x∈zs:=by
 unfold Go.Lib.compact Go.Lib.compactUpTo
 rw[List.mem_map]
 constructor
 ·rintro⟨j,hj,rfl⟩
  have hjl:=List.mem_range.1 (List.mem_filter.1 hj).1
  rw[getElem!_pos _ j (by simpa using hjl)]
  simp
 ·intro hx
  obtain⟨j,hj⟩:=List.getElem?_of_mem hx
  have key: ∀(j:Nat)(x:Int),zs[j]? =some x-> ∃i,i∈(List.range zs.length).filter (Go.Lib.keeps zs.toArray)/\zs.toArray[i]! =x:=by
   intro j
   induction j with
   |zero=>
    intro x h
    obtain⟨hl,h1⟩:=List.getElem?_eq_some_iff.1 h
    refine⟨0,List.mem_filter.2 ⟨List.mem_range.2 hl,Go.Lib.keeps_lt_one _ 0 (by omega)⟩,?_⟩
    rw[getElem!_pos _ 0 (by simpa using hl)]
    simpa using h1
   |succ j ih=>
    intro x h
    obtain⟨hl,h1⟩:=List.getElem?_eq_some_iff.1 h
    have e1:zs.toArray[j+1]! =x:=by rw[getElem!_pos _ (j+1) (by simpa using hl)];simpa using h1
    by_cases hk:Go.Lib.keeps zs.toArray (j+1)=true
    ·exact⟨j+1,List.mem_filter.2 ⟨List.mem_range.2 hl,hk⟩,e1⟩
    ·have he:zs.toArray[j+1]! =zs.toArray[j]!:=by
      unfold Go.Lib.keeps at hk
      simp only[decide_eq_true_eq,not_or,Decidable.not_not,Nat.add_sub_cancel]at hk
      exact hk.2
     have hl':j<zs.length:=by omega
     have e2:zs.toArray[j]! =zs[j]:=by rw[getElem!_pos _ j (by simpa using hl')];simp
     exact ih x (by rw[List.getElem?_eq_getElem hl'];rw[<-e2,<-he,e1])
  obtain⟨i,h1,h2⟩:=key j x hj
  exact⟨i,h1,h2⟩
theorem compact_asc(zs:List Int)(h:zs.Pairwise (· <= ·)):asc (Go.Lib.compact zs):=by
 unfold Go.Lib.compact Go.Lib.compactUpTo asc
 rw[List.pairwise_map]
 have hr:(List.range zs.length).Pairwise (· < ·):=List.pairwise_lt_range
 refine(List.Pairwise.filter _ hr).imp_of_mem λ{i j}hi hj hij=>?_
 have hjl:=List.mem_range.1 (List.mem_filter.1 hj).1
 have hk:=(List.mem_filter.1 hj).2
 unfold Go.Lib.keeps at hk
 simp only[decide_eq_true_eq]at hk
 have hne:zs.toArray[j]!≠zs.toArray[j-1]!:=by
  rcases hk with h1|h1
  ·omega
  ·exact h1
 rw[getElem!_pos _ j (by simpa using hjl),getElem!_pos _ (j-1) (by simp;omega)]at hne
 rw[getElem!_pos _ j (by simpa using hjl),getElem!_pos _ i (by simp;omega)]
 simp only[List.getElem_toArray]at hne ⊢
 have h1:=List.pairwise_iff_getElem.1 h (j-1) j (by omega) hjl (by omega)
 by_cases hi1:i=j-1
 ·subst hi1;omega
 ·have h2:=List.pairwise_iff_getElem.1 h i (j-1) (by omega) (by omega) (by omega)
  omega
theorem compact_len(zs:List Int):(Go.Lib.compact zs).length<=zs.length:=by
 unfold Go.Lib.compact Go.Lib.compactUpTo
 rw[List.length_map]
 exact Nat.le_trans (List.length_filter_le _ _) (by simp)
def insI(x:Int):List Int->List Int
 | []=>[x]
 |y::r=>bif decide (x<=y)then x::y::r else y::insI x r
def sortS:List Int->List Int
 | []=>[]
 |x::r=>insI x (sortS r)
theorem insI_perm(x:Int): ∀l:List Int,(insI x l).Perm (x::l)
 | []=>.refl _
 |y::r=>by
  unfold insI
  cases decide (x<=y)
  ·exact((insI_perm x r).cons y).trans (.swap x y r)
  ·exact .refl _
theorem sortS_perm: ∀l:List Int,(sortS l).Perm l
 | []=>.refl _
 |x::r=>(insI_perm x _).trans ((sortS_perm r).cons x)
theorem insI_le(x:Int): ∀l:List Int,l.Pairwise (· <= ·)->(insI x l).Pairwise (· <= ·)
 | [],_=>by simp[insI]
 |y::r,h=>by
  unfold insI
  have h':=List.pairwise_cons.1 h
  by_cases c:x<=y
  ·simp only[c,decide_true,cond_true]
   exact List.pairwise_cons.2 ⟨λz hz=>by simp at hz;rcases hz with rfl|hz;exact c;exact Int.le_trans c (h'.1 z hz),h⟩
  ·simp only[c,decide_false,cond_false]
   refine List.pairwise_cons.2 ⟨λz hz=>?_,insI_le x r h'.2⟩
   have:=(insI_perm x r).mem_iff.1 hz
   simp at this
   rcases this with rfl|hz
   ·omega
   ·exact h'.1 z hz
theorem sortS_len(l:List Int):(sortS l).length=l.length:=(sortS_perm l).length_eq
theorem sortS_mem(l:List Int)(x:Int):x∈sortS l↔x∈l:=(sortS_perm l).mem_iff
theorem sortS_le: ∀l:List Int,(sortS l).Pairwise (· <= ·)
 | []=>by simp[sortS]
 |x::r=>insI_le x _ (sortS_le r)
theorem sortS_merge(l:List Int):(l.mergeSort λx y=>decide (x<=y))=sortS l:=by
 refine List.Perm.eq_of_pairwise (le:=(· <= ·)) (λa b _ _ h1 h2=>by omega) ?_ (sortS_le l) ((List.mergeSort_perm l _).trans (sortS_perm l).symm)
 have:=List.pairwise_mergeSort (le:=λx y:Int=>decide (x<=y)) (λa b c h1 h2=>by simp at *;omega) (λa b=>by simp;omega) l
 exact this.imp λh=>by simpa using h
theorem sort_callsS{P:Program}{ρ:Go.Shelf.Ren}(L:Go.Proofs.Lays.n189 P ρ)(l:List Int)(h1:l.length<=4194304):
  ACalls P (ρ.f 189) [.ms 0 0 l.length] ⟨[(0,.cells 1 (l.map AV.i))],1⟩ λy t=>y=.tup []/\t=⟨[(0,.cells 1 ((sortS l).map AV.i))],1⟩:=by
 rw[<-sortS_merge]
 exact sort_calls0 L l h1
def putI(l:List Int)(n:Int):List Int:=bif l.any (λx=>decide (x=n))then l else l.filter (λx=>decide (x<n))++n::l.filter λx=>!decide (x<n)
theorem putI_ok{l:List Int}(h:asc l)(n:Int):asc (putI l n)/\ ∀x,x∈putI l n↔x=n\/x∈l:=by
 unfold putI
 cases ha:l.any (λx=>decide (x=n))with
 |true=>
  rw[cond_true]
  obtain⟨y,h1,h2⟩:=List.any_eq_true.1 ha
  simp only[decide_eq_true_eq]at h2
  subst h2
  exact⟨h,λx=>⟨λhx=>.inr hx,λhx=>by rcases hx with rfl|hx<;>assumption⟩⟩
 |false=>
  rw[cond_false]
  have hn: ∀x∈l,x≠n:=λx hx e=>by
   have:=List.any_eq_false.1 ha x hx
   simp[e]at this
  constructor
  ·refine List.pairwise_append.2 ⟨h.filter _,List.pairwise_cons.2 ⟨λy hy=>?_,h.filter _⟩,λa ha' b hb=>?_⟩
   ·obtain⟨h1,h2⟩:=List.mem_filter.1 hy
    have:=hn y h1
    simp at h2;omega
   ·obtain⟨h1,h2⟩:=List.mem_filter.1 ha'
    simp only[decide_eq_true_eq]at h2
    rcases List.mem_cons.1 hb with rfl|hb
    ·exact h2
    ·obtain⟨h3,h4⟩:=List.mem_filter.1 hb
     simp at h4;omega
  ·intro x
   simp only[List.mem_append,List.mem_cons,List.mem_filter]
   constructor
   ·rintro(h1|h1|h1)
    ·exact .inr h1.1
    ·exact .inl h1
    ·exact .inr h1.1
   ·rintro(h1|h1)
    ·exact .inr (.inl h1)
    ·by_cases hx:x<n
     ·exact .inl ⟨h1,by simpa using hx⟩
     ·exact .inr (.inr ⟨h1,by simpa using hx⟩)
theorem putI_len{l:List Int}(n:Int):(putI l n).length<=l.length+1:=by
 unfold putI
 cases l.any (λx=>decide (x=n))with
 |true=>simp
 |false=>
  have:=(List.filter_append_perm (λx=>decide (x<n)) l).length_eq
  simp only[cond_false,List.length_append,List.length_cons]at this ⊢
  omega
theorem foldl_put: ∀(l a:List Int),asc a->asc (l.foldl putI a)/\ ∀x,x∈l.foldl putI a↔x∈l\/x∈a
 | [],a,h=>⟨h,λx=>by simp⟩
 |y::l,a,h=>by
  obtain⟨h1,h2⟩:=putI_ok h y
  obtain⟨h3,h4⟩:=foldl_put l (putI a y) h1
  refine⟨h3,λx=>?_⟩
  rw[List.foldl_cons,h4,h2]
  simp only[List.mem_cons]
  constructor
  ·rintro(h|h|h)
   ·exact .inl (.inr h)
   ·exact .inl (.inl h)
   ·exact .inr h
  ·rintro((h|h)|h)
   ·exact .inr (.inl h)
   ·exact .inl h
   ·exact .inr (.inr h)
theorem put_all(l:List Int)(n:Int):Go.Lib.compact (sortS (n::l))=l.foldl putI [n]:=by
 obtain⟨h1,h2⟩:=foldl_put l [n] (List.pairwise_singleton _ _)
 refine asc_ext (compact_asc _ (sortS_le _)) h1 λx=>?_
 rw[compact_mem,sortS_mem,h2]
 simp only[List.mem_cons,List.not_mem_nil,or_false]
 exact or_comm
end Go.Am
