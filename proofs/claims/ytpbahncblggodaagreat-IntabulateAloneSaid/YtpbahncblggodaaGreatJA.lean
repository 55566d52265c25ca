/-
  Plain laws, joined by gen/joinH.py.
  Own work. No Go text.
-/
import Derived.Test.YtpbahncblggodaaGreatLq
import Derived.Test.YtpbahncblggodaaGreatTD
set_option linter.all false
namespace Go.Am
open Go.RowKit
theorem loop_ex{σ τ:Type}{body:σ->Option (σ⊕τ)}(Inv:Nat->σ->Prop)(Post:τ->Prop)(n:Nat)
  (hb: ∀k s,k<n->Inv k s->(∃s',body s=some (.inl s')/\Inv (k+1) s')\/(∃r,body s=some (.inr r)/\Post r))
  (he: ∀s,Inv n s-> ∃r,body s=some (.inr r)/\Post r): ∀(d k F:Nat)(s:σ),k+d=n->d<F->Inv k s-> ∃r,loopN body F s=some r/\Post r
 |0,k,F,s,hk,hF,hi=>by
  have:k=n:=by omega
  subst this
  obtain⟨r,h1,h2⟩:=he s hi
  cases F with
  |zero=>omega
  |succ F=>exact⟨r,by simp only[loopN,h1],h2⟩
 |d+1,k,F,s,hk,hF,hi=>by
  cases F with
  |zero=>omega
  |succ F=>
   rcases hb k s (by omega) hi with⟨s',h1,h2⟩|⟨r,h1,h2⟩
   ·obtain⟨r,h3,h4⟩:=loop_ex Inv Post n hb he d (k+1) F s' (by omega) (by omega) h2
    exact⟨r,by simp only[loopN,h1,h3],h4⟩
   ·exact⟨r,by simp only[loopN,h1],h2⟩
theorem loop_E{σ τ:Type}{body:σ->Option (σ⊕τ)}(Inv:Nat->σ->Prop)(Post:τ->Prop)(n:Nat){s0:σ}(hn:n<=4194304)(h0:Inv 0 s0)
  (hb: ∀k s,k<n->Inv k s->(∃s',body s=some (.inl s')/\Inv (k+1) s')\/(∃r,body s=some (.inr r)/\Post r))
  (he: ∀s,Inv n s-> ∃r,body s=some (.inr r)/\Post r): ∃r,loopN body FUEL s0=some r/\Post r:=
 loop_ex Inv Post n hb he n 0 FUEL s0 (by omega) (by unfold FUEL;omega) h0
theorem bindX{α β:Type}{x:Option α}{f:α->Option β}{P1:α->Prop}{P:β->Prop}(h1: ∃r,x=some r/\P1 r)(h2: ∀r,P1 r-> ∃z,f r=some z/\P z): ∃z,x.bind f=some z/\P z:=by
 obtain⟨r,e,hr⟩:=h1
 subst e
 exact h2 r hr
theorem needP{α:Type}{p:Prop}[Decidable p]{x:Option α}(h:p):need p x=x:=if_pos h
theorem ixAt{α:Type}{l:List α}{i:Int}{x:α}(k:Nat)(hi:i=(k:Int))(h:l[k]? =some x):ix l i=some x:=by subst hi;exact ixNat h
theorem bifX{α:Type}{b:Bool}{x y:Option α}{P:α->Prop}(h1:b=true-> ∃z,x=some z/\P z)(h2:b=false-> ∃z,y=some z/\P z): ∃z,(bif b then x else y)=some z/\P z:=by
 cases b
 ·exact h2 rfl
 ·exact h1 rfl
theorem wrI{n:Int}(h1: -9223372036854775808<=n)(h2:n<=9223372036854775807):wr n=n:=wr64 h1 h2
theorem loopB{σ τ β:Type}{body:σ->Option (σ⊕τ)}{f:τ->Option β}{P:β->Prop}{s0:σ}(Inv:Nat->σ->Prop)(Post:τ->Prop)(n:Nat)(hn:n<=4194304)(h0:Inv 0 s0)
  (hb: ∀k s,k<n->Inv k s->(∃s',body s=some (.inl s')/\Inv (k+1) s')\/(∃r,body s=some (.inr r)/\Post r))
  (he: ∀s,Inv n s-> ∃r,body s=some (.inr r)/\Post r) (k: ∀r,Post r-> ∃z,f r=some z/\P z): ∃z,(loopN body FUEL s0).bind f=some z/\P z:=
 bindX (loop_E Inv Post n hn h0 hb he) k
end Go.Am
set_option linter.all false
namespace Go.Proofs.YtpbahncblggodaaGreat
open Go Go.Am
set_option maxRecDepth 100000
theorem f85_eq(a lo hi:Int):f85 a lo hi=some (decide (lo<=a)&&decide (a<=hi)):=by
 unfold f85
 cases decide (lo<=a)<;>rfl
def inR(a lo hi:Int):Bool:=decide (lo<=a)&&decide (a<=hi)
theorem f40_eq(a lo hi:Int):f40 a lo hi=some (inR a lo hi):=by
 unfold f40 inR
 cases decide (lo<=a)<;>rfl
theorem f75_eq(a lo hi:Int):f75 a lo hi=some (inR a lo hi):=f40_eq a lo hi
theorem orE(a b:Bool):(bif a then some true else some b)=some (a||b):=by cases a<;>rfl
theorem notInR(x lo hi:Int):(!(inR x lo hi))=(decide (x<lo)||decide (hi<x)):=by
 unfold inR
 by_cases h1:x<lo<;>by_cases h2:hi<x<;>simp[h1,h2]<;>omega
theorem not_any{α:Type}(l:List α)(p:α->Bool):l.any (λx=>!p x)=!(l.all p):=by simp[List.any_eq_not_all_not]
def badT(e:Int)(t:GTone):Bool:=!(inR t.pitch 0 127)||(decide (t.from_<e)||(decide (t.to_<=t.from_)||decide (262144<t.to_)))
def okT:Int->List GTone->Bool
 |_,[]=>true
 |e,t::r=>!(badT e t)&&okT t.to_ r
def manyS(l:List (List GTone)):Bool:=decide (6<l.length)||l.any λp=>decide (400<p.length)
def partsS(l:List (List GTone)):Int:=if manyS l then 2 else if l.all (okT 0)then 0 else 80
theorem f138_eq(l:List (List GTone))(hs:Small l):f138 l=some (idxF (λp=>decide (400<p.length)) l):=by
 unfold f138
 rw[loop_find l (λp=>decide (400<p.length)) (λi _=>(i:Int)) hs]
 ·simp only[Option.bind_some,findS_idx,idxF]
  cases l.findIdx? _<;>simp
 ·intro i y hy
  have e:decide (400<(y.length:Int))=decide (400<y.length):=by simp;omega
  simp only[dltLen hy,cond_true,ixNat hy,Option.bind_some,f74,e]
  cases decide (400<y.length)<;>rfl
 ·simp
theorem f73_eq(l:List (List GTone))(hs:Small l):f73 l=some (l.any λp=>decide (400<p.length)):=by
 unfold f73
 rw[f138_eq l hs]
 simp only[Option.bind_some,idxF_nonneg]
def stepT{τ:Type}(c:τ):Nat->Int->GTone->Int⊕(Unit⊕τ):=λ_ e t=>bif badT e t then .inr (.inr c)else .inl t.to_
theorem foldT{τ:Type}(c:τ): ∀(l:List GTone)(k:Nat)(e:Int),foldE (stepT c) (λ_=>.inl ()) k l e=bif okT e l then .inl ()else .inr c
 | [],_,_=>rfl
 |t::r,k,e=>by
  simp only[foldE,stepT,okT]
  cases badT e t with
  |true=>rfl
  |false=>simp only[cond_false];rw[foldT c r];rfl
theorem f28_eq(l:List (List GTone))(hs:Small l):f28 l=some (partsS l):=by
 have hmany:((bif (decide (6<(l.length:Int)))then(some true)else((f73 l).bind λr2=>some r2)):Option Bool)=some (manyS l):=by
  rw[f73_eq l hs]
  unfold manyS
  have e:decide (6<(l.length:Int))=decide (6<l.length):=by simp;omega
  rw[e]
  cases decide (6<l.length)<;>rfl
 unfold f28
 rw[hmany]
 simp only[Option.bind_some]
 cases hm:manyS l with
 |true=>simp[partsS,hm]
 |false=>
  simp only[cond_false]
  have hlen: ∀p∈l,p.length<=400:=λp hp=>by
   simp only[manyS,Bool.or_eq_false_iff,List.any_eq_false,decide_eq_true_eq]at hm
   have:=hm.2 p hp
   omega
  rw[loop_find l (λp=>!(okT 0 p)) (λ_ _=>80) hs]
  ·simp only[Option.bind_some,findS_any,partsS,hm,not_any]
   cases l.all (okT 0)<;>rfl
  ·intro i p hp
   have hps:Small p:=by have:=hlen p (List.mem_of_getElem? hp);simp only[Small];omega
   simp only[dltLen hp,cond_true,ixNat hp,Option.bind_some]
   rw[loop_fold (λ(e:Int)i=>(e,i)) (stepT (τ:=Int⊕(Unit⊕Int)) (.inr (.inr 80))) (λ_=>.inl ()) p (λ_ _=>True) 0 (small_fuel hps) trivial]
   ·rw[foldT]
    cases okT 0 p<;>rfl
   ·intro j e t ht _
    refine⟨?_,λ_ _=>trivial⟩
    simp only[dltLen ht,cond_true,ixNat ht,Option.bind_some,f75_eq,stepT,badT,wrLen hps ht]
    cases inR t.pitch 0 127<;>cases decide (t.from_<e)<;>cases decide (t.to_<=t.from_)<;>cases decide (262144<t.to_)<;>rfl
   ·intro e _;simp
  ·simp
theorem f82_eq(l:List GTone)(hs:Small l):f82 l=some (okT 0 l):=by
 unfold f82
 rw[loop_fold (λ(_:Int)i=>i) (stepT (τ:=Bool) false) (λ_=>.inl ()) l (λi e=>0<=e/\(i=0->e=0)/\ ∀j,i=j+1-> ∃p,l[j]? =some p/\e=p.to_) 0 (small_fuel hs) ⟨Int.le_refl _,λ_=>rfl,λj h=>by cases h⟩]
 ·rw[foldT]
  cases okT 0 l<;>rfl
 ·intro i e t ht ⟨h0,h1,h2⟩
  constructor
  ·have hb:((bif (decide (t.pitch<0))then(some true)else(bif (decide (127<t.pitch))then(some true)else(bif (decide (t.from_<0))then(some true)else(bif (decide (t.to_<=t.from_))then(some true)else(bif (decide (262144<t.to_))then(some true)else(bif (decide (0<(i:Int)))then((ix l (wr ((i:Int)-1))).bind λy9=>some (decide (t.from_<y9.to_)))else(some false))))))):Option Bool)=some (badT e t):=by
    cases i with
    |zero=>
     have:=h1 rfl
     subst this
     have d6:decide (0<((0:Nat):Int))=false:=by simp
     simp only[d6,cond_false,orE,badT,notInR,Bool.or_assoc]
     cases decide (t.pitch<0)<;>cases decide (127<t.pitch)<;>cases decide (t.from_<0)<;>cases decide (t.to_<=t.from_)<;>cases decide (262144<t.to_)<;>rfl
    |succ j=>
     obtain⟨p,hp,rfl⟩:=h2 j rfl
     have hw:wr (((j+1:Nat):Int)-1)=(j:Int):=by
      have:=(List.getElem?_eq_some_iff.1 hp).1
      simp only[Small]at hs
      rw[wr64 (by omega) (by omega)];omega
     rw[hw,ixNat hp]
     have d6:decide (0<((j+1:Nat):Int))=true:=by simp <;>omega
     simp only[d6,cond_true,Option.bind_some,orE,badT,notInR,Bool.or_assoc]
     by_cases c3:t.from_<0
     ·have c6:t.from_<p.to_:=by omega
      simp only[c3,c6,decide_true,Bool.true_or,Bool.or_true]
     ·have e3:decide (t.from_<0)=false:=by simpa using c3
      rw[e3]
      cases decide (t.pitch<0)<;>cases decide (127<t.pitch)<;>cases decide (t.from_<p.to_)<;>cases decide (t.to_<=t.from_)<;>cases decide (262144<t.to_)<;>rfl
   simp only[dltLen ht,cond_true,ixNat ht,Option.bind_some]
   rw[hb]
   simp only[Option.bind_some,stepT,wrLen hs ht]
   cases badT e t<;>rfl
  ·intro e' he
   simp only[stepT]at he
   cases hb:badT e t with
   |true=>rw[hb]at he;cases he
   |false=>
    rw[hb]at he
    cases he
    refine⟨?_,(λh=>by cases h),(λj hj=>by cases hj;exact⟨t,ht,rfl⟩)⟩
    simp only[badT,Bool.or_eq_false_iff,decide_eq_false_iff_not]at hb
    omega
 ·intro e _;simp
theorem f33_eq(l:List (List GTone))(hs:Small l):f33 l=some (partsS l):=by
 unfold f33
 rw[loop_fold (λ(b:Bool)i=>(b,i)) (λ_ b(p:List GTone)=>(.inl (b||decide (400<p.length)):Bool⊕Bool)) (λb=>b) l (λ_ _=>True) (decide (6<(l.length:Int))) (small_fuel hs) trivial]
 ·have key: ∀(r:List (List GTone))(k:Nat)(b:Bool),foldE (λ_ b(p:List GTone)=>(.inl (b||decide (400<p.length)):Bool⊕Bool)) (λb=>b) k r b=(b||r.any λp=>decide (400<p.length)):=by
   intro r
   induction r with
   |nil=>intro k b;simp[foldE]
   |cons p r ih=>intro k b;simp only[foldE,ih,List.any_cons,Bool.or_assoc]
  rw[key]
  have e:decide (6<(l.length:Int))=decide (6<l.length):=by simp;omega
  rw[e]
  show(Option.bind (some (manyS l)) _)=_
  simp only[Option.bind_some]
  cases hm:manyS l with
  |true=>simp[partsS,hm]
  |false=>
   simp only[cond_false]
   have hp: ∀p∈l,Small p:=λp hp=>by
    simp only[manyS,Bool.or_eq_false_iff,List.any_eq_false,decide_eq_true_eq]at hm
    have:=hm.2 p hp
    simp only[Small];omega
   rw[loop_find l (λp=>!(okT 0 p)) (λ_ _=>80) hs]
   ·simp only[Option.bind_some,findS_any,partsS,hm,not_any]
    cases l.all (okT 0)<;>rfl
   ·intro i p hpp
    simp only[dltLen hpp,cond_true,ixNat hpp,Option.bind_some,f82_eq p (hp p (List.mem_of_getElem? hpp))]
    cases okT 0 p<;>rfl
   ·simp
 ·intro i b p hpp _
  refine⟨?_,λ_ _=>trivial⟩
  have e:decide (400<(p.length:Int))=decide (400<p.length):=by simp;omega
  simp only[dltLen hpp,cond_true,ixNat hpp,Option.bind_some,wrLen hs hpp,e]
  cases b<;>rfl
 ·intro b _;simp
theorem partsS_ok{l:List (List GTone)}(h:partsS l=0):l.length<=6/\ ∀p∈l,p.length<=400/\okT 0 p=true:=by
 unfold partsS at h
 split at h
 ·cases h
 ·rename_i h1
  split at h
  ·rename_i h2
   simp only[manyS,Bool.or_eq_true,decide_eq_true_eq,List.any_eq_true,not_or,not_exists,not_and]at h1
   exact⟨by omega,λp hp=>⟨by have:=h1.2 p hp;omega,List.all_eq_true.1 h2 p hp⟩⟩
  ·cases h
theorem dltNat(a b:Nat):decide ((a:Int)<(b:Int))=decide (a<b):=by
 by_cases h:a<b
 ·have:(a:Int)<b:=by omega
  simp[h,this]
 ·have: ¬(a:Int)<b:=by omega
  simp[h,this]
def stepsS:Int->List Int->Bool
 |_,[]=>true
 |e,y::r=>!(decide (y<=e)||decide (127<y))&&stepsS y r
def pitchS(s:List Int)(c:GCourse):Int:=bif decide (0<c.frets)then wr (c.pitch+(s[(c.frets-1).toNat]?).getD 0)else c.pitch
def topS(s:List Int)(c:GCourse):Int:=bif c.octave then wr (pitchS s c+12)else pitchS s c
def courseS(s:List Int)(c:GCourse):Int:=
 bif decide (c.frets<0)||decide ((s.length:Int)<c.frets)then 13 else bif decide (c.pitch<0)||(decide (127<c.pitch)||decide (127<topS s c))then 10 else 0
def badC(s:List Int)(c:GCourse):Bool:=decide (courseS s c≠0)
def instS(a:GInstrument):Int:=
 bif decide (14<a.courses.length)||decide (18<a.steps.length)then 2 else bif decide (a.courses.length=0)then 11 else bif stepsS 0 a.steps then
  (match a.courses.find? (badC a.steps)with
   |some c=>courseS a.steps c
   |none=>0)
 else 11
theorem f135_eq(a:GInstrument)(c:GCourse)(h1:c.frets<=(a.steps.length:Int))(h2:a.steps.length<=18):f135 a c=some (topS a.steps c):=by
 unfold f135 topS pitchS
 by_cases h:0<c.frets
 ·have hw:wr (c.frets-1)=(((c.frets-1).toNat:Nat):Int):=by rw[wr64 (by omega) (by omega)];omega
  have hl:(c.frets-1).toNat<a.steps.length:=by omega
  have hg:a.steps[(c.frets-1).toNat]? =some a.steps[(c.frets-1).toNat]:=List.getElem?_eq_getElem hl
  have hd:decide (0<c.frets)=true:=by simpa using h
  simp only[hd,cond_true,hw,ixNat hg,hg,Option.bind_some,Option.getD_some]
  cases c.octave<;>rfl
 ·have hd:decide (0<c.frets)=false:=by simpa using h
  simp only[hd,cond_false,Option.bind_some]
  cases c.octave<;>rfl
theorem fold_steps: ∀(l:List Int)(k:Nat)(e:Int),foldE (λ_(e:Int)y=>(bif decide (y<=e)||decide (127<y)then .inr (.inr 11)else .inl y:Int⊕(Unit⊕Int))) (λ_=>.inl ()) k l e=bif stepsS e l then .inl ()else .inr 11
 | [],_,_=>rfl
 |y::r,k,e=>by
  simp only[foldE,stepsS]
  cases(decide (y<=e)||decide (127<y))with
  |true=>rfl
  |false=>simp only[cond_false,Bool.not_false,Bool.true_and];exact fold_steps r (k+1) y
theorem many_c(a b:Nat):((bif (decide (14<(a:Int)))then(some true)else(some (decide (18<(b:Int))))):Option Bool)=some (decide (14<a)||decide (18<b)):=by
 have e1:decide (14<(a:Int))=decide (14<a):=dltNat 14 a
 have e2:decide (18<(b:Int))=decide (18<b):=dltNat 18 b
 rw[e1,e2]
 cases decide (14<a)<;>rfl
theorem len0{α:Type}(l:List α):decide ((l.length:Int)=0)=decide (l.length=0):=by
 by_cases h:l.length=0
 ·simp[h]
 ·have: ¬(l.length:Int)=0:=by omega
  simp[h,this]
theorem f70_eq(a:GInstrument):f70 a=some (instS a):=by
 unfold f70 instS
 rw[many_c,len0]
 simp only[Option.bind_some]
 cases hm:(decide (14<a.courses.length)||decide (18<a.steps.length))with
 |true=>rfl
 |false=>
  simp only[Bool.or_eq_false_iff,decide_eq_false_iff_not]at hm
  have hs:Small a.steps:=by simp only[Small];omega
  have hc:Small a.courses:=by simp only[Small];omega
  simp only[cond_false]
  cases decide (a.courses.length=0)with
  |true=>rfl
  |false=>
   simp only[cond_false]
   rw[loop_fold (λ(e:Int)i=>(e,i)) (λ_(e:Int)y=>(bif decide (y<=e)||decide (127<y)then .inr (.inr 11)else .inl y:Int⊕(Unit⊕Int))) (λ_=>.inl ()) a.steps (λ_ _=>True) 0 (small_fuel hs) trivial]
   ·rw[fold_steps]
    simp only[Option.bind_some]
    cases stepsS 0 a.steps with
    |false=>rfl
    |true=>
     simp only[cond_true,Sum.elim_inl]
     rw[loop_find a.courses (badC a.steps) (λ_ c=>courseS a.steps c) hc]
     ·simp only[Option.bind_some,findS_find]
      cases a.courses.find? (badC a.steps)<;>rfl
     ·intro i c hcc
      simp only[dltLen hcc,cond_true,ixNat hcc,Option.bind_some,orE,badC]
      cases hb:(decide (c.frets<0)||decide ((a.steps.length:Int)<c.frets))with
      |true=>
       have:courseS a.steps c=13:=by unfold courseS;rw[hb];rfl
       rw[this];rfl
      |false=>
       have hb':=hb
       simp only[Bool.or_eq_false_iff,decide_eq_false_iff_not]at hb
       simp only[cond_false,f135_eq a c (by omega) (by omega),Option.bind_some,orE]
       cases hb2:(decide (c.pitch<0)||(decide (127<c.pitch)||decide (127<topS a.steps c)))with
       |true=>
        have:courseS a.steps c=10:=by unfold courseS;rw[hb',hb2];rfl
        rw[this];rfl
       |false=>
        have:courseS a.steps c=0:=by unfold courseS;rw[hb',hb2];rfl
        rw[this];rfl
     ·simp
   ·intro i e y hy _
    refine⟨?_,λ_ _=>trivial⟩
    simp only[dltLen hy,cond_true,ixNat hy,Option.bind_some,orE,wrLen hs hy]
    cases(decide (y<=e)||decide (127<y))<;>rfl
   ·intro e _;simp
theorem instS_ok{a:GInstrument}(h:instS a=0):a.courses.length<=14/\a.steps.length<=18/\0<a.courses.length/\stepsS 0 a.steps=true/\ ∀c∈a.courses,courseS a.steps c=0:=by
 unfold instS at h
 cases hm:(decide (14<a.courses.length)||decide (18<a.steps.length))with
 |true=>rw[hm]at h;cases h
 |false=>
  rw[hm]at h
  simp only[Bool.or_eq_false_iff,decide_eq_false_iff_not]at hm
  simp only[cond_false]at h
  cases h0:decide (a.courses.length=0)with
  |true=>rw[h0]at h;cases h
  |false=>
   rw[h0]at h
   simp only[cond_false]at h
   cases hst:stepsS 0 a.steps with
   |false=>rw[hst]at h;cases h
   |true=>
    rw[hst]at h
    simp only[cond_true]at h
    simp only[decide_eq_false_iff_not]at h0
    refine⟨by omega,by omega,by omega,rfl,λc hc=>?_⟩
    cases hf:a.courses.find? (badC a.steps)with
    |some d=>
     rw[hf]at h
     have:=List.find?_some hf
     simp only[badC,decide_eq_true_eq]at this
     exact absurd h this
    |none=>
     have:=List.find?_eq_none.1 hf c hc
     simpa[badC]using this
theorem courseS_ok{s:List Int}{c:GCourse}(h:courseS s c=0):0<=c.frets/\c.frets<=(s.length:Int)/\0<=c.pitch/\c.pitch<=127/\topS s c<=127:=by
 unfold courseS at h
 cases hb:(decide (c.frets<0)||decide ((s.length:Int)<c.frets))with
 |true=>rw[hb]at h;cases h
 |false=>
  rw[hb]at h
  cases hb2:(decide (c.pitch<0)||(decide (127<c.pitch)||decide (127<topS s c)))with
  |true=>rw[hb2]at h;cases h
  |false=>
   simp only[Bool.or_eq_false_iff,decide_eq_false_iff_not]at hb hb2
   omega
def soundS(s:List Int)(c:GCourse)(k:Nat):Int:=if k=0 then c.pitch else wr (c.pitch+(s[k-1]?).getD 0)
def rowS(s:List Int)(p:Int)(i:Nat)(c:GCourse)(n:Nat):List GPlace:=((List.range n).filter λk=>decide (soundS s c k=p)).map λ(k:Nat)=>(⟨((i+1:Nat):Int),(k:Int)⟩:GPlace)
def placesL(s:List Int)(p:Int):Nat->List GCourse->List GPlace
 |_,[]=>[]
 |i,c::r=>rowS s p i c (c.frets.toNat+1)++placesL s p (i+1) r
def placesS(a:GInstrument)(p:Int):List GPlace×Int:=
 if instS a=0 then(bif decide (p<0)||decide (127<p)then([],10)else(placesL a.steps p 0 a.courses,0))else([],instS a)
theorem rowS_succ(s:List Int)(p:Int)(i:Nat)(c:GCourse)(n:Nat):rowS s p i c (n+1)=rowS s p i c n++(bif decide (soundS s c n=p)then [⟨((i+1:Nat):Int),(n:Int)⟩]else []):=by
 unfold rowS
 rw[List.range_succ,List.filter_append,List.map_append]
 cases h:decide (soundS s c n=p)<;>simp[h]
theorem rowS_len(s:List Int)(p:Int)(i:Nat)(c:GCourse)(n:Nat):(rowS s p i c n).length<=n:=by
 unfold rowS
 rw[List.length_map]
 exact Nat.le_trans (List.length_filter_le _ _) (by simp)
theorem f71_eq(a:GInstrument)(c:GCourse)(k:Nat)(h:(k:Int)<=c.frets)(h1:c.frets<=(a.steps.length:Int))(h2:a.steps.length<=18):f71 a c (k:Int)=some (soundS a.steps c k):=by
 unfold f71 soundS
 by_cases h0:k=0
 ·subst h0;rfl
 ·have hd:decide ((k:Int)=0)=false:=by simp;omega
  have hw:wr ((k:Int)-1)=((k-1:Nat):Int):=by rw[wr64 (by omega) (by omega)];omega
  have hg:a.steps[k-1]? =some a.steps[k-1]:=List.getElem?_eq_getElem (by omega)
  rw[hd,cond_false,hw,ixNat hg,if_neg h0,hg];rfl
theorem fold_places(s:List Int)(p:Int): ∀(l:List GCourse)(i:Nat)(a:List GPlace),foldE (λi a(c:GCourse)=>(.inl (a++rowS s p i c (c.frets.toNat+1)):List GPlace⊕List GPlace)) (λa=>a) i l a=a++placesL s p i l
 | [],_,_=>by simp[foldE,placesL]
 |c::r,i,a=>by simp only[foldE,fold_places s p r,placesL,List.append_assoc]
theorem f124_eq(a:GInstrument)(p:Int):f124 a p=some (placesS a p):=by
 unfold f124 placesS
 rw[f70_eq]
 simp only[Option.bind_some,orE]
 by_cases hi:instS a=0
 ·obtain⟨i1,i2,i3,i4,i5⟩:=instS_ok hi
  have hd:decide (instS a≠0)=false:=by simpa using hi
  have hcs:Small a.courses:=by simp only[Small];omega
  rw[hd,cond_false,if_pos hi]
  cases(decide (p<0)||decide (127<p))with
  |true=>rfl
  |false=>
   simp only[cond_false]
   rw[loop_fold (λ(x:List GPlace)i=>(x,i)) (λi x(c:GCourse)=>(.inl (x++rowS a.steps p i c (c.frets.toNat+1)):List GPlace⊕List GPlace)) (λx=>x) a.courses (λi x=>x.length<=19*i) [] (small_fuel hcs) (by simp)]
   ·rw[fold_places];simp
   ·intro i x c hc hx
    have hil:=(List.getElem?_eq_some_iff.1 hc).1
    obtain⟨k1,k2,k3,k4,k5⟩:=courseS_ok (i5 c (List.mem_of_getElem? hc))
    constructor
    ·simp only[dltLen hc,cond_true,ixNat hc,Option.bind_some,wrLen hcs hc]
     rw[loop_all (λk=>(x++rowS a.steps p i c k,(k:Int))) (c.frets.toNat+1) (by omega) (by simp[rowS]) (r:=x++rowS a.steps p i c (c.frets.toNat+1))]
     ·rfl
     ·intro k hk
      have hle:decide ((k:Int)<=c.frets)=true:=by simp;omega
      have hl:=rowS_len a.steps p i c k
      have hm:(x++rowS a.steps p i c k).length+1<=maxElems:=by rw[List.length_append];unfold maxElems;omega
      have hw:wr ((k:Int)+1)=((k+1:Nat):Int):=wrNat (by omega)
      simp only[hle,cond_true,f71_eq a c k (by omega) k2 i2,Option.bind_some,hw,need,if_pos hm,rowS_succ]
      cases decide (soundS a.steps c k=p)with
      |true=>simp
      |false=>simp
     ·have hle:decide (((c.frets.toNat+1:Nat):Int)<=c.frets)=false:=by simp;omega
      simp only[hle,cond_false]
    ·intro x' he
     cases he
     have hl:=rowS_len a.steps p i c (c.frets.toNat+1)
     rw[List.length_append]
     omega
   ·intro x _;simp
 ·have hd:decide (instS a≠0)=true:=by simpa using hi
  rw[hd,if_neg hi];rfl
def badS(a:GInstrument)(q:Int):Bool:=decide ((placesS a q).2≠0)||decide (((placesS a q).1.length:Int)=0)
def missP(a:GInstrument)(s:Int)(n:Int)(p:List GTone):Int:=p.foldl (λn t=>bif badS a (wr (t.pitch+s))then wr (n+1)else n) n
def missS(l:List (List GTone))(a:GInstrument)(s:Int):Int:=l.foldl (missP a s) 0
theorem f61_eq(l:List (List GTone))(a:GInstrument)(s:Int)(hl:Small l)(hp: ∀p∈l,Small p):f61 l a s=some (missS l a s):=by
 unfold f61 missS
 rw[loop_fold (λ(n:Int)i=>(n,i)) (λ_ n p=>(.inl (missP a s n p):Int⊕Int)) (λn=>n) l (λ_ _=>True) 0 (small_fuel hl) trivial]
 ·rw[foldE_inl (missP a s)];rfl
 ·intro i n p hpp _
  refine⟨?_,λ_ _=>trivial⟩
  have hps:=hp p (List.mem_of_getElem? hpp)
  simp only[dltLen hpp,cond_true,ixNat hpp,Option.bind_some,wrLen hl hpp]
  rw[loop_fold (λ(n:Int)i=>(n,i)) (λ_ n(t:GTone)=>(.inl (bif badS a (wr (t.pitch+s))then wr (n+1)else n):Int⊕Int)) (λn=>n) p (λ_ _=>True) n (small_fuel hps) trivial]
  ·rw[foldE_inl (λn(t:GTone)=>bif badS a (wr (t.pitch+s))then wr (n+1)else n)];rfl
  ·intro j m t ht _
   refine⟨?_,λ_ _=>trivial⟩
   simp only[dltLen ht,cond_true,ixNat ht,Option.bind_some,wrLen hps ht,f124_eq,orE,badS]
   cases(decide ((placesS a (wr (t.pitch+s))).2≠0)||decide (((placesS a (wr (t.pitch+s))).1.length:Int)=0))<;>rfl
  ·intro m _;simp
 ·intro n _;simp
def setupS(l:List (List GTone))(a:GInstrument):Int:=if partsS l=0 then instS a else partsS l
theorem f38_eq(l:List (List GTone))(a:GInstrument)(hl:Small l):f38 l a=some (setupS l a):=by
 unfold f38 setupS
 rw[f28_eq l hl,f70_eq]
 simp only[Option.bind_some]
 by_cases h:partsS l=0<;>simp[h]
theorem partsS_small{l:List (List GTone)}(h:partsS l=0):l.length<=6/\ ∀p∈l,p.length<=400:=by
 unfold partsS at h
 split at h
 ·cases h
 ·rename_i h1
  simp only[manyS,Bool.or_eq_true,decide_eq_true_eq,List.any_eq_true,not_or,not_exists,not_and]at h1
  exact⟨by omega,λp hp=>by have:=h1.2 p hp;omega⟩
theorem setup_ok{l:List (List GTone)}{a:GInstrument}(h:setupS l a=0):partsS l=0/\instS a=0:=by
 unfold setupS at h
 split at h
 ·rename_i h1;exact⟨h1,h⟩
 ·rename_i h1;exact absurd h h1
theorem miss_eq{l:List (List GTone)}{a:GInstrument}(h:setupS l a=0)(s:Int):f61 l a s=some (missS l a s):=by
 obtain⟨h1,h2⟩:=partsS_small (setup_ok h).1
 exact f61_eq l a s (by simp only[Small];omega) λp hp=>by have:=h2 p hp;simp only[Small];omega
def missingR(l:List (List GTone))(a:GInstrument)(s:Int):Int×Int:=if setupS l a=0 then(bif inR s (-24) 24 then(missS l a s,0)else(0,1))else(0,setupS l a)
theorem f17_eq(l:List (List GTone))(a:GInstrument)(s:Int)(hl:Small l):f17 l a s=some (missingR l a s):=by
 unfold f17 missingR
 rw[f38_eq l a hl]
 simp only[Option.bind_some]
 by_cases h:setupS l a=0
 ·have hd:decide (setupS l a≠0)=false:=by simpa using h
  rw[hd,cond_false,if_pos h,f40_eq]
  simp only[Option.bind_some]
  cases inR s (-24) 24 with
  |false=>rfl
  |true=>simp only[Bool.not_true,cond_false,miss_eq h,Option.bind_some,cond_true]
 ·have hd:decide (setupS l a≠0)=true:=by simpa using h
  rw[hd,if_neg h];rfl
theorem pitch_c(a:GInstrument)(c:GCourse)(h1:c.frets<=(a.steps.length:Int))(h2:a.steps.length<=18):
  ((bif (decide (0<c.frets))then((ix a.steps (wr (c.frets-1))).bind λy=>some (wr (c.pitch+y)))else(some c.pitch)):Option Int)=some (pitchS a.steps c):=by
 unfold pitchS
 by_cases h:0<c.frets
 ·have hw:wr (c.frets-1)=(((c.frets-1).toNat:Nat):Int):=by rw[wr64 (by omega) (by omega)];omega
  have hl:(c.frets-1).toNat<a.steps.length:=by omega
  have hg:a.steps[(c.frets-1).toNat]? =some a.steps[(c.frets-1).toNat]:=List.getElem?_eq_getElem hl
  have hd:decide (0<c.frets)=true:=by simpa using h
  simp only[hd,cond_true,hw,ixNat hg,hg,Option.bind_some,Option.getD_some]
 ·have hd:decide (0<c.frets)=false:=by simpa using h
  simp only[hd,cond_false]
theorem f15_eq(a:GInstrument):f15 a=some (instS a):=by
 unfold f15 instS
 rw[many_c,len0]
 simp only[Option.bind_some]
 cases hm:(decide (14<a.courses.length)||decide (18<a.steps.length))with
 |true=>rfl
 |false=>
  simp only[Bool.or_eq_false_iff,decide_eq_false_iff_not]at hm
  have hs:Small a.steps:=by simp only[Small];omega
  have hc:Small a.courses:=by simp only[Small];omega
  simp only[cond_false]
  cases decide (a.courses.length=0)with
  |true=>rfl
  |false=>
   simp only[cond_false]
   rw[loop_fold (λ(e:Int)i=>(e,i)) (λ_(e:Int)y=>(bif decide (y<=e)||decide (127<y)then .inr (.inr 11)else .inl y:Int⊕(Unit⊕Int))) (λ_=>.inl ()) a.steps (λ_ _=>True) 0 (small_fuel hs) trivial]
   ·rw[fold_steps]
    simp only[Option.bind_some]
    cases stepsS 0 a.steps with
    |false=>rfl
    |true=>
     simp only[cond_true,Sum.elim_inl]
     rw[loop_find a.courses (badC a.steps) (λ_ c=>courseS a.steps c) hc]
     ·simp only[Option.bind_some,findS_find]
      cases a.courses.find? (badC a.steps)<;>rfl
     ·intro i c hcc
      simp only[dltLen hcc,cond_true,ixNat hcc,Option.bind_some,orE,badC]
      cases hb:(decide (c.frets<0)||decide ((a.steps.length:Int)<c.frets))with
      |true=>
       have:courseS a.steps c=13:=by unfold courseS;rw[hb];rfl
       rw[this];rfl
      |false=>
       have hb':=hb
       simp only[Bool.or_eq_false_iff,decide_eq_false_iff_not]at hb
       simp only[cond_false]
       have hco:courseS a.steps c=bif decide (c.pitch<0)||(decide (127<c.pitch)||decide (127<topS a.steps c))then 10 else 0:=by unfold courseS;rw[hb'];rfl
       rw[hco]
       cases h1:decide (c.pitch<0)with
       |true=>rfl
       |false=>
        cases h2:decide (127<c.pitch)with
        |true=>rfl
        |false=>
         simp only[Bool.or_false,cond_false,Bool.false_or,pitch_c a c (by omega) (by omega),Option.bind_some]
         have ht:((bif c.octave then(some (wr (pitchS a.steps c+12)))else(some (pitchS a.steps c))):Option Int)=some (topS a.steps c):=by unfold topS;cases c.octave<;>rfl
         rw[ht]
         simp only[Option.bind_some]
         cases decide (127<topS a.steps c)<;>rfl
     ·simp
   ·intro i e y hy _
    refine⟨?_,λ_ _=>trivial⟩
    simp only[dltLen hy,cond_true,ixNat hy,Option.bind_some,orE,wrLen hs hy]
    cases(decide (y<=e)||decide (127<y))<;>rfl
   ·intro e _;simp
theorem f83_eq(a:GInstrument)(c:GCourse)(i k:Nat)(hi:a.courses[i]? =some c)(hi2:i<14)(h:(k:Int)<=c.frets)(h1:c.frets<=(a.steps.length:Int))(h2:a.steps.length<=18):
  f83 a ⟨((i+1:Nat):Int),(k:Int)⟩=some (soundS a.steps c k):=by
 unfold f83 soundS
 have hw:wr (((i+1:Nat):Int)-1)=(i:Int):=by rw[wr64 (by omega) (by omega)];omega
 simp only[hw,ixNat hi,Option.bind_some]
 by_cases h0:k=0
 ·subst h0;rfl
 ·have hd:decide (0<(k:Int))=true:=by simp;omega
  have hw:wr ((k:Int)-1)=((k-1:Nat):Int):=by rw[wr64 (by omega) (by omega)];omega
  have hg:a.steps[k-1]? =some a.steps[k-1]:=List.getElem?_eq_getElem (by omega)
  rw[hd,cond_true,hw,ixNat hg,if_neg h0,hg];rfl
theorem placesL_snoc(s:List Int)(p:Int)(c:GCourse): ∀(l:List GCourse)(i:Nat),placesL s p i (l++[c])=placesL s p i l++rowS s p (i+l.length) c (c.frets.toNat+1)
 | [],i=>by simp[placesL]
 |d::r,i=>by
  simp only[List.cons_append,placesL,placesL_snoc s p c r,List.append_assoc,List.length_cons]
  congr 3
  omega
theorem placesL_len(s:List Int)(p:Int): ∀(l:List GCourse)(i:Nat),(∀c∈l,c.frets.toNat<=18)->(placesL s p i l).length<=19*l.length
 | [],i,_=>by simp[placesL]
 |c::r,i,h=>by
  have h1:=placesL_len s p r (i+1) λd hd=>h d (List.mem_cons_of_mem _ hd)
  have h2:=rowS_len s p i c (c.frets.toNat+1)
  have h3:=h c (by simp)
  simp only[placesL,List.length_append,List.length_cons]
  omega
theorem f35_eq(a:GInstrument)(p:Int):f35 a p=some (placesS a p):=by
 unfold f35 placesS
 rw[f15_eq]
 simp only[Option.bind_some,orE]
 by_cases hi:instS a=0
 ·obtain⟨i1,i2,i3,i4,i5⟩:=instS_ok hi
  have hfr: ∀c∈a.courses,c.frets.toNat<=18:=λc hc=>by
   have:=courseS_ok (i5 c hc)
   omega
  have hd:decide (instS a≠0)=false:=by simpa using hi
  rw[hd,cond_false,if_pos hi]
  cases(decide (p<0)||decide (127<p))with
  |true=>rfl
  |false=>
   simp only[cond_false]
   rw[loop_all (λi=>(placesL a.steps p 0 (a.courses.take i),((i+1:Nat):Int))) a.courses.length (by omega) (by simp[placesL]) (r:=placesL a.steps p 0 a.courses)]
   ·rfl
   ·intro i hil
    obtain⟨c,hc⟩: ∃c,a.courses[i]? =some c:=⟨_,List.getElem?_eq_getElem hil⟩
    obtain⟨k1,k2,k3,k4,k5⟩:=courseS_ok (i5 c (List.mem_of_getElem? hc))
    have hle:decide (((i+1:Nat):Int)<=(a.courses.length:Int))=true:=by simp;omega
    have hw0:wr (((i+1:Nat):Int)-1)=(i:Int):=by rw[wr64 (by omega) (by omega)];omega
    have hw1:wr (((i+1:Nat):Int)+1)=((i+1+1:Nat):Int):=wrNat (by omega)
    have hlx:(placesL a.steps p 0 (a.courses.take i)).length<=19*i:=by
     have:=placesL_len a.steps p (a.courses.take i) 0 λd hd=>hfr d (List.mem_of_mem_take hd)
     rw[List.length_take]at this
     omega
    have htl:(a.courses.take i).length=i:=by rw[List.length_take];omega
    simp only[hle,cond_true,hw0,ixNat hc,Option.bind_some,hw1]
    rw[loop_all (λk=>(placesL a.steps p 0 (a.courses.take i)++rowS a.steps p i c k,(k:Int))) (c.frets.toNat+1) (by omega) (by simp[rowS]) (r:=placesL a.steps p 0 (a.courses.take (i+1)))]
    ·rfl
    ·intro k hk
     have hle:decide ((k:Int)<=c.frets)=true:=by simp;omega
     have hl:=rowS_len a.steps p i c k
     have hm:(placesL a.steps p 0 (a.courses.take i)++rowS a.steps p i c k).length+1<=maxElems:=by rw[List.length_append];unfold maxElems;omega
     have hw:wr ((k:Int)+1)=((k+1:Nat):Int):=wrNat (by omega)
     simp only[hle,cond_true,f83_eq a c i k hc (by omega) (by omega) k2 i2,Option.bind_some,hw,need,if_pos hm,rowS_succ]
     cases decide (soundS a.steps c k=p)with
     |true=>simp
     |false=>simp
    ·have hle:decide (((c.frets.toNat+1:Nat):Int)<=c.frets)=false:=by simp;omega
     simp only[hle,cond_false,take_snoc hc,placesL_snoc,htl,Nat.zero_add]
   ·have hle:decide (((a.courses.length+1:Nat):Int)<=(a.courses.length:Int))=false:=by simp;omega
    simp only[hle,cond_false,List.take_length]
 ·have hd:decide (instS a≠0)=true:=by simpa using hi
  rw[hd,if_neg hi];rfl
theorem flat_len{l:List (List GTone)}: ∀(n:Nat),l.length<=n->(∀p∈l,p.length<=400)->l.flatten.length<=400*n:=by
 induction l with
 |nil=>intro n _ _;simp
 |cons p l ih=>
  intro n hn h
  cases n with
  |zero=>simp at hn
  |succ n=>
   have h1:=h p (by simp)
   have h2:=ih n (by simpa using hn) λq hq=>h q (List.mem_cons_of_mem _ hq)
   simp only[List.flatten_cons,List.length_append];omega
theorem take_flat{l:List (List GTone)}{k:Nat}{p:List GTone}(h:l[k]? =some p):(l.take (k+1)).flatten=(l.take k).flatten++p:=by
 rw[take_snoc h,List.flatten_append];simp
theorem flat_take(l:List (List GTone))(k:Nat):(l.take k).flatten.length<=l.flatten.length:=by
 conv=>rhs;rw[<-List.take_append_drop k l,List.flatten_append,List.length_append]
 omega
theorem f87_eq(l:List (List GTone))(h6:l.length<=6)(h4: ∀p∈l,p.length<=400):f87 l=some l.flatten:=by
 have hs:Small l:=by simp only[Small];omega
 have hfl:=flat_len 6 h6 h4
 unfold f87
 rw[loop_all (λk=>(((l.take k).flatten.length:Int),(k:Int))) l.length (by omega) (by simp) (r:=(l.flatten.length:Int))]
 ·have hok:f150 (l.flatten.length:Int)=some []:=by unfold f150;rw[if_pos (by omega)]
  rw[Option.bind_some,hok,Option.bind_some]
  rw[loop_all (λk=>((l.take k).flatten,(k:Int))) l.length (by omega) (by simp) (r:=l.flatten)]
  ·rfl
  ·intro k hk
   have hg:l[k]? =some (l[k]'hk):=List.getElem?_eq_getElem hk
   generalize l[k]'hk=p at hg
   have hf:=take_flat hg
   have ht:=flat_take l (k+1)
   rw[hf,List.length_append]at ht
   simp only[dltLen hg,cond_true,ixNat hg,Option.bind_some,wrLen hs hg,hf]
   by_cases he:p=[]
   ·subst he;simp
   ·have hm:(l.take k).flatten.length+p.length<=maxElems:=by unfold maxElems;omega
    rw[show p.isEmpty=false from by simpa using he]
    simp only[cond_false,need,if_pos hm,Option.bind_some]
  ·simp
 ·intro k hk
  have hg:l[k]? =some (l[k]'hk):=List.getElem?_eq_getElem hk
  generalize l[k]'hk=p at hg
  have hf:=take_flat hg
  have ht:=flat_take l (k+1)
  rw[hf,List.length_append]at ht
  have hw:wr (((l.take k).flatten.length:Int)+(p.length:Int))=(((l.take k).flatten.length+p.length:Nat):Int):=by rw[wr64 (by omega) (by omega)];omega
  have hneg:decide ((((l.take k).flatten.length+p.length:Nat):Int)<0)=false:=decide_eq_false (by omega)
  simp only[dltLen hg,cond_true,ixNat hg,Option.bind_some,hw,hneg,cond_false,wrLen hs hg,hf,List.length_append]
 ·simp
def soundsAt(l:List GTone)(t:Int):Bool:=l.any λx=>decide (x.from_<=t)&&decide (t<x.to_)
def timesOf(all:List GTone)(t:GTone):List Int:=bif soundsAt all t.to_ then [t.from_]else [t.from_,t.to_]
theorem f88_eq(p:List GTone)(t:GTone)(hs:Small p):f88 p t=some (soundsAt p t.to_):=by
 have h:f151 p t=some (idxF (λx=>decide (x.from_<=t.to_)&&decide (t.to_<x.to_)) p):=by
  unfold f151
  rw[loop_find p (λx=>decide (x.from_<=t.to_)&&decide (t.to_<x.to_)) (λi _=>(i:Int)) hs]
  ·simp only[Option.bind_some,findS_idx,idxF]
   cases p.findIdx? _<;>simp
  ·intro i y hy
   simp only[dltLen hy,cond_true,ixNat hy,Option.bind_some,f89]
   cases decide (y.from_<=t.to_)<;>cases decide (t.to_<y.to_)<;>rfl
  ·simp
 unfold f88
 rw[h]
 simp only[Option.bind_some,idxF_nonneg]
 rfl
theorem timesOf_len(all:List GTone)(t:GTone):(timesOf all t).length<=2:=by unfold timesOf;cases soundsAt all t.to_<;>simp
theorem times_len(all:List GTone): ∀(l:List GTone),(l.flatMap (timesOf all)).length<=2*l.length
 | []=>by simp
 |t::l=>by
  have:=times_len all l
  have:=timesOf_len all t
  simp only[List.flatMap_cons,List.length_append,List.length_cons];omega
theorem f41_eq(l:List (List GTone))(h6:l.length<=6)(h4: ∀p∈l,p.length<=400):f41 l=some ((l.flatten.flatMap (timesOf l.flatten)).foldl putI [0]):=by
 have hfl:=flat_len 6 h6 h4
 unfold f41
 rw[f87_eq l h6 h4]
 generalize l.flatten=all at hfl ⊢
 have hs:Small all:=by simp only[Small];omega
 simp only[Option.bind_some]
 rw[loop_all (λk=>((0:Int)::(all.take k).flatMap (timesOf all),(k:Int))) all.length (by omega) (by simp) (r:=0::all.flatMap (timesOf all))]
 ·have hl:=times_len all all
  have e1:f90 (0::all.flatMap (timesOf all))=some (sortS (0::all.flatMap (timesOf all))):=by
   unfold f90;rw[if_pos (by simp only[List.length_cons];omega)]
  have hsl:=sortS_len (0::all.flatMap (timesOf all))
  have e2:(sortS (0::all.flatMap (timesOf all))).take (0::all.flatMap (timesOf all)).length=sortS (0::all.flatMap (timesOf all)):=List.take_of_length_le (by omega)
  have e3:f91 (sortS (0::all.flatMap (timesOf all)))=some (Go.Lib.compact (sortS (0::all.flatMap (timesOf all)))):=by
   unfold f91;rw[if_pos ⟨by rw[hsl];simp,by rw[hsl];simp only[List.length_cons];omega⟩]
  simp only[Option.bind_some,e1,need,if_pos hsl,e3,put_all]
 ·intro k hk
  have hg:all[k]? =some (all[k]'hk):=List.getElem?_eq_getElem hk
  generalize all[k]'hk=t at hg
  have hl:=times_len all (all.take k)
  have hlk:(all.take k).length<=k:=by simp;omega
  have m1:((0:Int)::(all.take k).flatMap (timesOf all)).length+1<=maxElems:=by simp only[List.length_cons];unfold maxElems;omega
  have m2:(((0:Int)::(all.take k).flatMap (timesOf all))++[t.from_]).length+1<=maxElems:=by simp only[List.length_append,List.length_cons,List.length_nil];unfold maxElems;omega
  simp only[dltLen hg,cond_true,ixNat hg,Option.bind_some,need,if_pos m1,f88_eq all t hs,if_pos m2,wrLen hs hg,take_snoc hg,List.flatMap_append,List.flatMap_cons,List.flatMap_nil,List.append_nil,timesOf]
  cases soundsAt all t.to_<;>simp
 ·simp
theorem find_any{α:Type}(p:α->Bool)(l:List α):(match l.find? p with|some _=>true|none=>false)=l.any p:=by
 induction l with
 |nil=>rfl
 |cons x l ih=>
  rw[List.find?_cons,List.any_cons]
  cases p x with
  |true=>rfl
  |false=>simpa using ih
theorem f106_eq(l:List (List GTone))(t:Int)(hl:Small l)(hp: ∀p∈l,Small p):f106 l t=some (!(soundsAt l.flatten t)):=by
 unfold f106
 rw[loop_find (τ:=Bool) l (λp=>soundsAt p t) (λ_ _=>false) hl (by
  intro i y hy
  have hys:=hp y (List.mem_of_getElem? hy)
  simp only[dltLen hy,cond_true]
  rw[loop_find (τ:=Int⊕(Unit⊕Bool)) y (λx=>decide (x.from_<=t)&&decide (t<x.to_)) (λ_ _=>.inr (.inr false)) hys (by
   intro j x hx
   simp only[ixNat hy,Option.bind_some,dltLen hx,cond_true,ixNat hx]
   cases decide (x.from_<=t)<;>cases decide (t<x.to_)<;>rfl) (by simp[ixNat hy])]
  rw[findS_find]
  have h:=find_any (λx:GTone=>decide (x.from_<=t)&&decide (t<x.to_)) y
  unfold soundsAt
  rw[<-h]
  cases y.find? (λx:GTone=>decide (x.from_<=t)&&decide (t<x.to_))<;>rfl) (by simp)]
 rw[findS_find]
 have h:=find_any (λp=>soundsAt p t) l
 have h2:soundsAt l.flatten t=l.any λp=>soundsAt p t:=by unfold soundsAt;rw[List.any_flatten]
 rw[h2,<-h]
 cases l.find? (λp=>soundsAt p t)<;>rfl
theorem asc_split(n:Int): ∀{l:List Int},asc l->l=l.filter (λx=>decide (x<n))++l.filter λx=>!decide (x<n)
 | [],_=>rfl
 |x::l,h=>by
  obtain⟨h1,h2⟩:=List.pairwise_cons.1 h
  by_cases hx:x<n
  ·rw[List.filter_cons_of_pos (by simpa using hx),List.filter_cons_of_neg (by simpa using hx),List.cons_append,<-asc_split n h2]
  ·have he:l.filter (λx=>decide (x<n))=[]:=List.filter_eq_nil_iff.2 λy hy=>by
    have:=h1 y hy
    simp;omega
   rw[List.filter_cons_of_neg (by simpa using hx),List.filter_cons_of_pos (by simpa using hx),he,List.nil_append]
   congr 1
   exact(List.filter_eq_self.2 λy hy=>by have:=h1 y hy;simp;omega).symm
def downB(l:List Int)(n:Int):Int->Option (Int⊕Int):=λ(l1_5:Int)=>((bif (decide (0<l1_5))then((ix l (wr (l1_5-1))).bind λy2=>some (decide (n<=y2)))else(some false)):Option Bool).bind λ(j2_18:Bool)=>bif j2_18 then(some (.inl (wr (l1_5-1))))else(some (.inr l1_5))
theorem down_loop(A B:List Int)(n:Int)(hA: ∀x∈A,x<n)(hB: ∀x∈B,n<=x)(hs:Small (A++B)): ∀(k fuel:Nat),k<=B.length->k<fuel->loopN (downB (A++B) n) fuel ((A.length+k:Nat):Int)=some (A.length:Int)
 |_,0,_,h=>by omega
 |0,fuel+1,_,_=>by
  by_cases h0:A.length=0
  ·have hd:decide ((0:Int)<((A.length+0:Nat):Int))=false:=decide_eq_false (by omega)
   simp only[loopN,downB,hd,cond_false,Option.bind_some]
   rfl
  ·simp only[Small,List.length_append]at hs
   have hd:decide ((0:Int)<((A.length+0:Nat):Int))=true:=decide_eq_true (by omega)
   have hw:wr (((A.length+0:Nat):Int)-1)=((A.length-1:Nat):Int):=by rw[wr64 (by omega) (by omega)];omega
   have hg:(A++B)[A.length-1]? =some (A[A.length-1]'(by omega)):=by rw[List.getElem?_append_left (by omega),List.getElem?_eq_getElem]
   have ha:=hA _ (List.getElem_mem (l:=A) (n:=A.length-1) (by omega))
   have hd2:decide (n<=A[A.length-1]'(by omega))=false:=decide_eq_false (by omega)
   simp only[loopN,downB,hd,cond_true,hw,ixNat hg,Option.bind_some,hd2,cond_false]
   rfl
 |k+1,fuel+1,hk,hf=>by
  have hs':=hs
  simp only[Small,List.length_append]at hs'
  have hd:decide ((0:Int)<((A.length+(k+1):Nat):Int))=true:=decide_eq_true (by omega)
  have hw:wr (((A.length+(k+1):Nat):Int)-1)=((A.length+k:Nat):Int):=by rw[wr64 (by omega) (by omega)];omega
  have hg:(A++B)[A.length+k]? =some (B[k]'(by omega)):=by
   rw[List.getElem?_append_right (by omega),Nat.add_sub_cancel_left,List.getElem?_eq_getElem]
  have hb:=hB _ (List.getElem_mem (l:=B) (n:=k) (by omega))
  have hd2:decide (n<=B[k]'(by omega))=true:=decide_eq_true hb
  simp only[loopN,downB,hd,cond_true,hw,ixNat hg,Option.bind_some,hd2]
  exact down_loop A B n hA hB hs k fuel (by omega) (by omega)
theorem shift_eq(A B:List Int)(n:Int)(d:Nat)(hd:d=A.length)(Y:List Int)(hY:Y=(A++B)++[0]):
  (cpL Y (d+1) (Y.length-(d+1)) ((Y.drop d).take (Y.length-d))).set d n=A++n::B:=by
 unfold cpL
 subst hd
 rw[List.append_assoc]at hY
 have hl:Y.length=A.length+(B.length+1):=by rw[hY];simp
 have h1:Y.drop A.length=B++[0]:=by rw[hY,List.drop_left]
 have h2:Y.take (A.length+1)=A++(B++[0]).take 1:=by rw[hY,List.take_length_add_append]
 have h3:(B++[0]).take (Y.length-A.length)=B++[0]:=List.take_of_length_le (by simp;omega)
 have h4:min (B++[(0:Int)]).length (Y.length-(A.length+1))=B.length:=by simp;omega
 have h5:(B++[(0:Int)]).take B.length=B:=List.take_left
 have h6:Y.drop (A.length+1+B.length)=[]:=List.drop_of_length_le (by omega)
 rw[h1,h3,h4,h5,h6,h2,List.append_nil]
 obtain⟨x,hx⟩: ∃x,(B++[(0:Int)]).take 1=[x]:=by
  cases B with
  |nil=>exact⟨0,rfl⟩
  |cons b B=>exact⟨b,rfl⟩
 rw[hx,List.append_assoc,List.set_append_right (h:=Nat.le_refl _)]
 simp
theorem f105_eq(l:List Int)(n:Int)(ha:asc l)(hs:l.length<=100000):f105 l n=some (putI l n):=by
 have hsp:=asc_split n ha
 have hAm: ∀x∈l.filter (λx=>decide (x<n)),x<n:=λx hx=>by simpa using(List.mem_filter.1 hx).2
 have hBm: ∀x∈l.filter (λx=>!decide (x<n)),n<=x:=λx hx=>by have:=(List.mem_filter.1 hx).2;simp at this;exact this
 have hBa:asc (l.filter (λx=>!decide (x<n))):=ha.filter _
 have hput:putI l n=bif l.any (λx=>decide (x=n))then l else l.filter (λx=>decide (x<n))++n::l.filter λx=>!decide (x<n):=rfl
 rw[hput]
 generalize l.filter (λx=>decide (x<n))=A at hsp hAm
 generalize l.filter (λx=>!decide (x<n))=B at hsp hBm hBa
 have hlen:l.length=A.length+B.length:=by rw[hsp,List.length_append]
 have hsm:Small (A++B):=by simp only[Small,List.length_append];omega
 have hdown:=down_loop A B n hAm hBm hsm B.length FUEL (Nat.le_refl _) (by unfold FUEL;omega)
 unfold f105
 rw[<-hsp]at hdown
 have hlc:((A.length+B.length:Nat):Int)=(l.length:Int):=by rw[hlen]
 rw[hlc]at hdown
 have hloop:loopN (σ:=Int) (τ:=Int) (downB l n) FUEL (l.length:Int)=some (A.length:Int):=hdown
 unfold downB at hloop
 rw[hloop,Option.bind_some]
 cases hB:B with
 |nil=>
  subst hB
  have hd:decide ((A.length:Int)<(l.length:Int))=false:=decide_eq_false (by simp at hlen;omega)
  have hany:l.any (λx=>decide (x=n))=false:=by
   rw[hsp,List.append_nil]
   exact List.any_eq_false.2 λx hx=>by have:=hAm x hx;simp;omega
  rw[hany,hd]
  simp only[cond_false,Option.bind_some]
  have m1:l.length+1<=maxElems:=by unfold maxElems;omega
  have hw:wr ((A.length:Int)+1)=((A.length+1:Nat):Int):=wrNat (by omega)
  have hl0:(l++[(0:Int)]).length=A.length+([]:List Int).length+1:=by rw[List.length_append,hlen];rfl
  simp only[hw,Int.toNat_natCast,need,if_pos m1]
  have hq:=shift_eq A [] n A.length rfl (l++[0]) (by rw[hsp])
  have hql:=congrArg List.length hq
  rw[List.length_set]at hql
  rw[if_pos (by omega),if_pos (by rw[hl0];omega),if_pos (by omega),if_pos (by rw[hl0];omega),if_pos (by rw[hl0];omega),if_pos (by rw[hl0];omega),if_pos (by rw[hql,hl0];simp <;>omega)]
  obtain⟨v,hv⟩: ∃v,(cpL (l++[(0:Int)]) (A.length+1) ((l++[0]).length-(A.length+1)) (((l++[0]).drop A.length).take ((l++[0]).length-A.length)))[A.length]? =some v:=⟨_,List.getElem?_eq_getElem (by rw[hql];simp)⟩
  rw[ixNat hv,Option.bind_some,hq]
 |cons b B'=>
  subst hB
  have hd:decide ((A.length:Int)<(l.length:Int))=true:=decide_eq_true (by simp at hlen;omega)
  have hg:l[A.length]? =some b:=by rw[hsp,List.getElem?_append_right (Nat.le_refl _)];simp
  rw[hd,cond_true,ixNat hg,Option.bind_some,Option.bind_some]
  by_cases he:b=n
  ·have hany:l.any (λx=>decide (x=n))=true:=List.any_eq_true.2 ⟨b,List.mem_of_getElem? hg,by simpa using he⟩
   rw[decide_eq_true he,hany];rfl
  ·have hany:l.any (λx=>decide (x=n))=false:=by
    rw[hsp]
    refine List.any_eq_false.2 λx hx=>?_
    rcases List.mem_append.1 hx with h|h
    ·have:=hAm x h;simp;omega
    ·have hb:=hBm b (by simp)
     rcases List.mem_cons.1 h with rfl|h
     ·simpa using he
     ·have:=(List.pairwise_cons.1 hBa).1 x h;simp;omega
   rw[hany,decide_eq_false he]
   simp only[cond_false]
   have m1:l.length+1<=maxElems:=by unfold maxElems;omega
   have hw:wr ((A.length:Int)+1)=((A.length+1:Nat):Int):=wrNat (by omega)
   have hl0:(l++[(0:Int)]).length=A.length+(b::B').length+1:=by rw[List.length_append,hlen];rfl
   simp only[hw,Int.toNat_natCast,need,if_pos m1]
   have hq:=shift_eq A (b::B') n A.length rfl (l++[0]) (by rw[hsp])
   have hql:=congrArg List.length hq
   rw[List.length_set]at hql
   rw[if_pos (by omega),if_pos (by rw[hl0];omega),if_pos (by omega),if_pos (by rw[hl0];omega),if_pos (by rw[hl0];omega),if_pos (by rw[hl0];omega),if_pos (by rw[hql,hl0];simp <;>omega)]
   obtain⟨v,hv⟩: ∃v,(cpL (l++[(0:Int)]) (A.length+1) ((l++[0]).length-(A.length+1)) (((l++[0]).drop A.length).take ((l++[0]).length-A.length)))[A.length]? =some v:=⟨_,List.getElem?_eq_getElem (by rw[hql];simp)⟩
   rw[ixNat hv,Option.bind_some,hq]
def accT(all L:List GTone):List Int:=(L.flatMap (timesOf all)).foldl putI [0]
theorem foldl_len: ∀(l a:List Int),(l.foldl putI a).length<=a.length+l.length
 | [],a=>by simp
 |x::l,a=>by
  have h1:=foldl_len l (putI a x)
  have h2:=putI_len (l:=a) x
  simp only[List.foldl_cons,List.length_cons];omega
theorem accT_ok(all L:List GTone)(hL:L.length<=2500):asc (accT all L)/\(accT all L).length<=6000:=by
 refine⟨(foldl_put _ [0] (by simp[asc])).1,?_⟩
 have h1:=foldl_len (L.flatMap (timesOf all)) [0]
 have h2:=times_len all L
 simp only[List.length_cons,List.length_nil]at h1
 unfold accT;omega
theorem accT_snoc(all L:List GTone)(t:GTone):accT all (L++[t])=(timesOf all t).foldl putI (accT all L):=by
 unfold accT
 rw[List.flatMap_append,List.foldl_append];simp
theorem f53_eq(l:List (List GTone))(h6:l.length<=6)(h4: ∀p∈l,p.length<=400):f53 l=some (accT l.flatten l.flatten):=by
 have hs:Small l:=by simp only[Small];omega
 have hps: ∀p∈l,Small p:=λp hp=>by have:=h4 p hp;simp only[Small];omega
 have hfl:=flat_len 6 h6 h4
 have h93:=λt=>f106_eq l t hs hps
 unfold f53
 generalize hall:l.flatten=all at h93 hfl ⊢
 rw[loop_all (λk=>(accT all (l.take k).flatten,(k:Int))) l.length (by omega) (by simp[accT]) (r:=accT all all)]
 ·rfl
 ·intro k hk
  have hg:l[k]? =some (l[k]'hk):=List.getElem?_eq_getElem hk
  generalize l[k]'hk=p at hg
  have hp4:=h4 p (List.mem_of_getElem? hg)
  have hsp:=hps p (List.mem_of_getElem? hg)
  have hf:=take_flat hg
  have ht:=flat_take l (k+1)
  rw[hf,List.length_append,hall]at ht
  simp only[dltLen hg,cond_true]
  rw[loop_all (λj=>(accT all ((l.take k).flatten++p.take j),(j:Int))) p.length (by omega) (by simp) (r:=accT all ((l.take k).flatten++p))]
  ·simp only[Option.bind_some,wrLen hs hg,hf]
  ·intro j hj
   have hgj:p[j]? =some (p[j]'hj):=List.getElem?_eq_getElem hj
   generalize p[j]'hj=t at hgj
   have hlj:((l.take k).flatten++p.take j).length<=2400:=by rw[List.length_append,List.length_take];omega
   obtain⟨a1,a2⟩:=accT_ok all _ (Nat.le_trans hlj (by omega))
   have hs2:accT all ((l.take k).flatten++p.take (j+1))=(timesOf all t).foldl putI (accT all ((l.take k).flatten++p.take j)):=by
    rw[take_snoc hgj,<-List.append_assoc,accT_snoc]
   rw[hs2]
   generalize accT all ((l.take k).flatten++p.take j)=acc at a1 a2 ⊢
   have b1:=(putI_ok a1 t.from_).1
   have b2:=putI_len (l:=acc) t.from_
   simp only[ixNat hg,Option.bind_some,dltLen hgj,cond_true,ixNat hgj,f105_eq acc t.from_ a1 (by omega),h93,wrLen hsp hgj]
   unfold timesOf
   cases soundsAt all t.to_ with
   |true=>simp
   |false=>simp[f105_eq (putI acc t.from_) t.to_ b1 (by omega)]
  ·simp[ixNat hg]
 ·simp[hall]
end Go.Proofs.YtpbahncblggodaaGreat
set_option linter.all false
namespace Go.Proofs.YtpbahncblggodaaGreat
open Go Go.Am
set_option maxRecDepth 100000
def allS:List GSign:=(f92).getD []
def tk(s:GSign):Nat:=((f93 s).getD 0).toNat
theorem f92_eq:f92=some allS:=rfl
theorem allS_len:allS.length=21:=rfl
theorem allS_ok: ∀s∈allS,f93 s=some (tk s:Int)/\1<=tk s/\tk s<=768:=by
 have h:(allS.all λs=>decide (f93 s=some (tk s:Int))&&(decide (1<=tk s)&&decide (tk s<=768)))=true:=by decide
 intro s hs
 have:=List.all_eq_true.1 h s hs
 simpa using this
structure TabS (T:List Int) (n k:Nat):Prop where
 len:T.length=n+1
 z:T[0]? =some 0
 lo: ∀m,m<=k-> ∀e,T[m]? =some e-> -1<=e/\e<=(m:Int)/\(0<m->e≠0)
 p2: ∀m,0<m->m<=k-> ∀e,T[m]? =some e->0<=e-> ∃s∈allS,tk s<=m/\T[m-tk s]? =some (e-1)
 p3: ∀m,m<=k-> ∀s∈allS,tk s<=m-> ∀e e',T[m]? =some e->T[m-tk s]? =some e'->0<=e'->0<=e/\e<=e'+1
theorem TabS.step{T:List Int}{n k:Nat}(h:TabS T n k)(hk:k<n)(hn:n<=4608): ∃r,loopN (σ:=(List Int×Int)) (τ:=(List Int)) (λ((l3_h2,l3_32):(List Int×Int))=>bif (decide (l3_32<(allS.length:Int)))then((((ix allS l3_32).bind λy9=>(f93 y9).bind λr10=>((bif (decide (0<=(wr (((k+1:Nat):Int)-r10))))then((ix l3_h2 (wr (((k+1:Nat):Int)-r10))).bind λy12=>bif (decide (0<=y12))then((ix l3_h2 ((k+1:Nat):Int)).bind λy14=>bif (decide (y14<0))then(some true)else(some (decide ((wr (y12+1))<y14))))else(some false))else(some false)):Option Bool).bind λ(j5_67:Bool)=>bif j5_67 then((ix l3_h2 (wr (((k+1:Nat):Int)-r10))).bind λy17=>(ix l3_h2 ((k+1:Nat):Int)).bind λy18=>some (l3_h2.set (((k+1:Nat):Int)).toNat (wr (y17+1))))else(some l3_h2)):Option (List Int)).bind λ(j4_h2:(List Int))=>some (.inl (j4_h2,(wr (l3_32+1)))))else(some (.inr l3_h2))) FUEL ((T.set (((k+1:Nat):Int)).toNat (-1)),0)=some r/\TabS r n (k+1):=by
 have hl:=h.len
 refine loop_E (λj(s:List Int×Int)=>s.2=(j:Int)/\s.1.length=n+1/\(∀m,m≠k+1->s.1[m]? =T[m]?)/\ ∃e,s.1[k+1]? =some e/\ -1<=e/\e<=((k+1:Nat):Int)/\e≠0/\
   (0<=e-> ∃s∈allS,tk s<=k+1/\T[k+1-tk s]? =some (e-1))/\ ∀s∈allS.take j,tk s<=k+1-> ∀e',T[k+1-tk s]? =some e'->0<=e'->0<=e/\e<=e'+1) _ allS.length (by rw[allS_len];omega) ?_ ?_ ?_
 ·refine⟨rfl,by simp[hl],λm hm=>?_,-1,?_,by omega,by omega,by omega,λh=>by omega,by simp⟩
  ·show(T.set (((k+1:Nat):Int)).toNat (-1))[m]? =_
   rw[Int.toNat_natCast,List.getElem?_set_ne (by omega)]
  ·show(T.set (((k+1:Nat):Int)).toNat (-1))[k+1]? =_
   rw[Int.toNat_natCast,List.getElem?_set];simp;omega
 ·rintro j ⟨q,s2⟩ hj ⟨e0,hq,hoth,e,he,h1,h2,h3,h4,h5⟩
  simp only at e0 hq hoth he
  subst e0
  have x1:allS[j]? =some (allS[j]'hj):=List.getElem?_eq_getElem _
  generalize allS[j]'hj=s at x1
  have hm:=List.mem_of_getElem? x1
  obtain⟨t1,t2,t3⟩:=allS_ok s hm
  have hsm:Small allS:=by simp only[Small,allS_len];omega
  have w0:wr (((k+1:Nat):Int)-(tk s:Int))=((k+1:Nat):Int)-(tk s:Int):=wrI (by omega) (by omega)
  simp only[dltLen x1,cond_true,ixNat x1,t1,Option.bind_some,wrLen hsm x1,w0]
  have keep:(∀e',tk s<=k+1->T[k+1-tk s]? =some e'->0<=e'->0<=e/\e<=e'+1)-> ∀s'∈allS.take (j+1),tk s'<=k+1-> ∀e',T[k+1-tk s']? =some e'->0<=e'->0<=e/\e<=e'+1:=λhs s' hs' ht e' he' h0=>by
   rw[take_snoc x1,List.mem_append]at hs'
   rcases hs' with hs'|hs'
   ·exact h5 s' hs' ht e' he' h0
   ·simp at hs';subst hs';exact hs e' ht he' h0
  by_cases c1:tk s<=k+1
  ·have c2:(0:Int)<=((k+1:Nat):Int)-(tk s:Int):=by omega
   have hne:k+1-tk s≠k+1:=by omega
   have y0:T[k+1-tk s]? =some (T[k+1-tk s]'(by omega)):=List.getElem?_eq_getElem _
   generalize T[k+1-tk s]'(by omega)=y at y0
   have y1:q[k+1-tk s]? =some y:=by rw[hoth _ hne];exact y0
   have i1:ix q (((k+1:Nat):Int)-(tk s:Int))=some y:=ixAt (k+1-tk s) (by omega) y1
   have hy:=h.lo (k+1-tk s) (by omega) y y0
   simp only[c2,decide_true,cond_true,i1,Option.bind_some]
   by_cases c3:0<=y
   ·have w1:wr (y+1)=y+1:=wrI (by omega) (by omega)
    simp only[c3,decide_true,cond_true,ixNat he,Option.bind_some,w1]
    have hnew: ∀e2,e2=y+1->(e<0\/e2<e)-> ∃s',some (Sum.inl (q.set (k+1) e2,((j+1:Nat):Int)):(List Int×Int)⊕List Int)=some (.inl s')/\s'.2=((j+1:Nat):Int)/\s'.1.length=n+1/\(∀m,m≠k+1->s'.1[m]? =T[m]?)/\ ∃e,s'.1[k+1]? =some e/\ -1<=e/\e<=((k+1:Nat):Int)/\e≠0/\
      (0<=e-> ∃s∈allS,tk s<=k+1/\T[k+1-tk s]? =some (e-1))/\ ∀s∈allS.take (j+1),tk s<=k+1-> ∀e',T[k+1-tk s]? =some e'->0<=e'->0<=e/\e<=e'+1:=λe2 he2 hlt=>by
     subst he2
     refine⟨_,rfl,rfl,by simpa using hq,λm hm=>?_,y+1,?_,by omega,by omega,by omega,λ_=>⟨s,hm,c1,by rw[y0];congr 1;omega⟩,λs' hs' ht e' he' h0=>?_⟩
     ·show(q.set (k+1) (y+1))[m]? =_
      rw[List.getElem?_set_ne (by omega)];exact hoth m hm
     ·show(q.set (k+1) (y+1))[k+1]? =_
      rw[List.getElem?_set];simp;omega
     ·rw[take_snoc x1,List.mem_append]at hs'
      rcases hs' with hs'|hs'
      ·have:=h5 s' hs' ht e' he' h0
       omega
      ·simp at hs';subst hs'
       rw[y0]at he';cases he'
       omega
    have iq:ix q (((k+1:Nat):Int)-(tk s:Int))=some y:=i1
    by_cases c4:e<0
    ·simp only[c4,decide_true,cond_true,Option.bind_some,i1,ixNat he,Int.toNat_natCast,w1]
     exact .inl (hnew (y+1) rfl (.inl c4))
    ·by_cases c5:y+1<e
     ·simp only[c4,c5,decide_true,decide_false,cond_true,cond_false,Option.bind_some,i1,ixNat he,Int.toNat_natCast,w1]
      exact .inl (hnew (y+1) rfl (.inr c5))
     ·simp only[c4,c5,decide_false,cond_false,Option.bind_some]
      refine .inl ⟨_,rfl,rfl,hq,hoth,e,he,h1,h2,h3,h4,keep λe' _ he' _=>?_⟩
      rw[y0]at he';cases he'
      omega
   ·simp only[c3,decide_false,cond_false,Option.bind_some]
    refine .inl ⟨_,rfl,rfl,hq,hoth,e,he,h1,h2,h3,h4,keep λe' _ he' h0=>?_⟩
    rw[y0]at he';cases he'
    exact absurd h0 c3
  ·have c2: ¬((0:Int)<=((k+1:Nat):Int)-(tk s:Int)):=by omega
   simp only[c2,decide_false,cond_false,Option.bind_some]
   exact .inl ⟨_,rfl,rfl,hq,hoth,e,he,h1,h2,h3,h4,keep λe' ht _ _=>absurd ht c1⟩
 ·rintro⟨q,s2⟩ ⟨e0,hq,hoth,e,he,h1,h2,h3,h4,h5⟩
  simp only at e0 hq hoth he
  subst e0
  simp only[Int.lt_irrefl,decide_false,cond_false]
  rw[List.take_length]at h5
  refine⟨_,rfl,hq,by rw[hoth 0 (by omega)];exact h.z,λm hm e' he'=>?_,λm h0 hm e' he' hz=>?_,λm hm s hs ht e1 e2 he1 he2 h0=>?_⟩
  ·by_cases hmk:m=k+1
   ·subst hmk
    rw[he]at he';cases he'
    exact⟨h1,h2,λ_=>h3⟩
   ·rw[hoth m hmk]at he'
    exact h.lo m (by omega) e' he'
  ·by_cases hmk:m=k+1
   ·subst hmk
    rw[he]at he';cases he'
    obtain⟨s,a,b,c⟩:=h4 hz
    have:=(allS_ok s a).2.1
    exact⟨s,a,b,by rw[hoth _ (by omega)];exact c⟩
   ·rw[hoth m hmk]at he'
    obtain⟨s,a,b,c⟩:=h.p2 m h0 (by omega) e' he' hz
    have:=(allS_ok s a).2.1
    exact⟨s,a,b,by rw[hoth _ (by omega)];exact c⟩
  ·have:=(allS_ok s hs).2.1
   rw[hoth _ (by omega)]at he2
   by_cases hmk:m=k+1
   ·subst hmk
    rw[he]at he1;cases he1
    exact h5 s hs ht e2 he2 h0
   ·rw[hoth m hmk]at he1
    exact h.p3 m (by omega) s hs ht e1 e2 he1 he2 h0
def sumT(l:List GSign):Nat:=l.foldr (λs n=>tk s+n) 0
theorem sumT_perm{a b:List GSign}(h:a.Perm b):sumT a=sumT b:=by
 induction h with
 |nil=>rfl
 |cons x _ ih=>simp only[sumT,List.foldr_cons]at *;omega
 |swap x y l=>simp only[sumT,List.foldr_cons];omega
 |trans _ _ h1 h2=>omega
inductive ChainS (T:List Int):Nat->Nat->Prop
 |z (a:Nat):ChainS T 0 a
 |k {m a:Nat} {s:GSign} {e:Int} (hs:s∈allS) (h1:tk s<=a) (h2:tk s<=m) (he:T[m]? =some e) (he':T[m-tk s]? =some (e-1)) (hr:ChainS T (m-tk s) (tk s)):ChainS T m a
theorem rep_le{T:List Int}{n:Nat}(h:TabS T n n): ∀(L:List GSign)(m:Nat),(∀s∈L,s∈allS)->sumT L=m->m<=n-> ∃e,T[m]? =some e/\0<=e/\e<=(L.length:Int)
 | [],m,_,hm,_=>by
  simp[sumT]at hm
  subst hm
  exact⟨0,h.z,by omega,by simp⟩
 |s::L,m,hL,hm,hn=>by
  have hs:=hL s (by simp)
  have hm:tk s+sumT L=m:=hm
  obtain⟨e',h1,h2,h3⟩:=rep_le h L (m-tk s) (λx hx=>hL x (by simp[hx])) (by omega) (by omega)
  have hlen:=h.len
  have x1:T[m]? =some (T[m]'(by omega)):=List.getElem?_eq_getElem _
  obtain⟨a,b⟩:=h.p3 m hn s hs (by omega) _ e' x1 h1 h2
  exact⟨_,x1,a,by simp;omega⟩
theorem rep_ex{T:List Int}{n:Nat}(h:TabS T n n): ∀(d m:Nat),m<=d->m<=n-> ∀e,T[m]? =some e->0<=e-> ∃L:List GSign,(∀s∈L,s∈allS)/\sumT L=m/\(L.length:Int)=e
 |d,0,_,_,e,he,h0=>by
  rw[h.z]at he;cases he
  exact⟨[],by simp,rfl,by simp⟩
 |0,m+1,hd,_,_,_,_=>by omega
 |d+1,m+1,hd,hn,e,he,h0=>by
  obtain⟨s,h1,h2,h3⟩:=h.p2 (m+1) (by omega) hn e he h0
  have hs:=(allS_ok s h1).2.1
  have hne:=(h.lo (m+1) hn e he).2.2 (by omega)
  obtain⟨L,a,b,c⟩:=rep_ex h d (m+1-tk s) (by omega) (by omega) (e-1) h3 (by omega)
  refine⟨s::L,λx hx=>?_,?_,by simp;omega⟩
  ·simp at hx;rcases hx with rfl|hx
   ·exact h1
   ·exact a x hx
  ·show tk s+sumT L=m+1;omega
theorem chain_of{T:List Int}{n:Nat}(h:TabS T n n): ∀(L:List GSign)(m a:Nat)(e:Int),(∀s∈L,s∈allS/\tk s<=a)->sumT L=m->m<=n->T[m]? =some e->(L.length:Int)=e->(L.Pairwise λx y=>tk y<=tk x)->ChainS T m a
 | [],m,a,e,_,hm,_,_,_,_=>by simp[sumT]at hm;subst hm;exact .z a
 |s::L,m,a,e,hL,hm,hn,he,hl,hp=>by
  have hm:tk s+sumT L=m:=hm
  obtain⟨e',h1,h2,h3⟩:=rep_le h L (m-tk s) (λx hx=>(hL x (by simp[hx])).1) (by omega) (by omega)
  obtain⟨_,b⟩:=h.p3 m hn s (hL s (by simp)).1 (by omega) e e' he h1 h2
  have he':e'=e-1:=by simp at hl;omega
  subst he'
  rw[List.pairwise_cons]at hp
  exact .k (hL s (by simp)).1 (hL s (by simp)).2 (by omega) he h1 (chain_of h L (m-tk s) (tk s) (e-1) (λx hx=>⟨(hL x (by simp[hx])).1,hp.1 x hx⟩) (by omega) (by omega) h1 (by simp at hl;omega) hp.2)
theorem chain_ex{T:List Int}{n:Nat}(h:TabS T n n){e:Int}(he:T[n]? =some e)(h0:0<=e):ChainS T n 768:=by
 obtain⟨L,h1,h2,h3⟩:=rep_ex h n n (Nat.le_refl _) (Nat.le_refl _) e he h0
 have hp:=List.mergeSort_perm L λx y=>decide (tk y<=tk x)
 refine chain_of h (L.mergeSort λx y=>decide (tk y<=tk x)) n 768 e (λs hs=>?_) (by rw[sumT_perm hp];exact h2) (Nat.le_refl _) he (by rw[hp.length_eq];exact h3) ?_
 ·have:=h1 s (hp.mem_iff.1 hs)
  exact⟨this,(allS_ok s this).2.2⟩
 ·have:=List.pairwise_mergeSort (le:=λx y=>decide (tk y<=tk x)) (λa b c h1 h2=>by simp at *;omega) (λa b=>by simp;omega) L
  exact this.imp λh=>by simpa using h
theorem f94_ex(T:List Int)(n:Nat)(hT:TabS T n n)(hn:n<=4608): ∀(fu m a:Nat)(l:List GSign),m<fu->m<=n->l.length+m<=10000->
  ∃r,f94r fu (m:Int) (a:Int) allS T l=some r/\((r.1=true/\ ∃q,r.2=l++q/\sumT q=m/\ ∀s∈q,s∈allS)\/(r.1=false/\r.2=l))/\(ChainS T m a->r.1=true)
 |0,m,a,l,h,_,_=>by omega
 |fu+1,m,a,l,hf,hm,hl=>by
  have hlen:=hT.len
  unfold f94r
  by_cases h0:m=0
  ·subst h0
   simp only[decide_true,cond_true]
   exact⟨_,rfl,.inl ⟨rfl,[],by simp,rfl,by simp⟩,λ_=>rfl⟩
  ·have c0: ¬((m:Int)=0):=by omega
   simp only[c0,decide_false,cond_false]
   have key:=loop_E (body:=λ((l1_h3,l1_16):(List GSign×Int))=>bif (decide (l1_16<(allS.length:Int)))then((((ix allS l1_16).bind λy3=>(f93 y3).bind λr4=>((bif (decide ((a:Int)<r4))then(some true)else(bif (decide ((m:Int)<r4))then(some true)else((ix T (wr ((m:Int)-r4))).bind λy7=>(ix T (m:Int)).bind λy8=>some (decide (y7≠(wr (y8-1))))))):Option Bool).bind λ(j3_43:Bool)=>bif j3_43 then(some (.inl l1_h3))else(need (l1_h3.length+1<=maxElems)<|(f94r fu (wr ((m:Int)-r4)) r4 allS T (l1_h3++([y3]:List GSign))).bind λr11=>bif r11.1 then(some (.inr (.inr (.inr (true,r11.2)))))else(need (0<=(wr ((r11.2.length:Int)-1)))<|need ((wr ((r11.2.length:Int)-1)).toNat<=r11.2.length)<|need ((wr ((r11.2.length:Int)-1)).toNat<=r11.2.length)<|some (.inl (r11.2.take (wr ((r11.2.length:Int)-1)).toNat))))):Option ((List GSign)⊕((List GSign×Int)⊕((List GSign)⊕(Bool×List GSign))))).bind (Sum.elim (λ(j2_h3:(List GSign))=>some (.inl (j2_h3,(wr (l1_16+1))))) some))else(some (.inr (.inl l1_h3))))
    (λj(s:List GSign×Int)=>s.2=(j:Int)/\s.1=l/\ ∀s∈allS.take j,¬(tk s<=a/\tk s<=m/\ ∃e,T[m]? =some e/\T[m-tk s]? =some (e-1)/\ChainS T (m-tk s) (tk s)))
    (λo=>match o with
     |.inl q=>q=l/\ ∀s∈allS,¬(tk s<=a/\tk s<=m/\ ∃e,T[m]? =some e/\T[m-tk s]? =some (e-1)/\ChainS T (m-tk s) (tk s))
     |.inr r=>r.1=true/\ ∃q,r.2=l++q/\sumT q=m/\ ∀s∈q,s∈allS) allS.length (s0:=(l,0)) (by rw[allS_len];omega) ⟨rfl,rfl,by simp⟩ ?_ ?_
   ·obtain⟨o,k1,k2⟩:=key
    simp only[k1,Option.bind_some]
    cases o with
    |inl q=>
     refine⟨_,rfl,.inr ⟨rfl,k2.1⟩,λhc=>?_⟩
     cases hc with
     |z=>omega
     |k hs h1 h2 he he' hr=>exact absurd ⟨h1,h2,_,he,he',hr⟩ (k2.2 _ hs)
    |inr r=>exact⟨r,rfl,.inl k2,λ_=>k2.1⟩
   ·rintro j ⟨q,s2⟩ hj ⟨e0,e1,hno⟩
    simp only at e0 e1
    subst e0;subst e1
    have x1:allS[j]? =some (allS[j]'hj):=List.getElem?_eq_getElem _
    generalize allS[j]'hj=s at x1
    have hs:=List.mem_of_getElem? x1
    obtain⟨t1,t2,t3⟩:=allS_ok s hs
    have hsm:Small allS:=by simp only[Small,allS_len];omega
    simp only[dltLen x1,cond_true,ixNat x1,t1,Option.bind_some,wrLen hsm x1]
    have skip:(¬(tk s<=a/\tk s<=m/\ ∃e,T[m]? =some e/\T[m-tk s]? =some (e-1)/\ChainS T (m-tk s) (tk s)))-> ∀s'∈allS.take (j+1),¬(tk s'<=a/\tk s'<=m/\ ∃e,T[m]? =some e/\T[m-tk s']? =some (e-1)/\ChainS T (m-tk s') (tk s')):=λhq s' hs'=>by
     rw[take_snoc x1,List.mem_append]at hs'
     rcases hs' with hs'|hs'
     ·exact hno s' hs'
     ·simp at hs';subst hs';exact hq
    by_cases c1:(a:Int)<(tk s:Int)
    ·simp only[c1,decide_true,cond_true,Option.bind_some,Sum.elim_inl]
     exact .inl ⟨_,rfl,rfl,rfl,skip λh=>by omega⟩
    by_cases c2:(m:Int)<(tk s:Int)
    ·simp only[c1,c2,decide_true,decide_false,cond_true,cond_false,Option.bind_some,Sum.elim_inl]
     exact .inl ⟨_,rfl,rfl,rfl,skip λh=>by omega⟩
    have w0:wr ((m:Int)-(tk s:Int))=((m-tk s:Nat):Int):=by rw[wrI (by omega) (by omega)];omega
    have y1:T[m-tk s]? =some (T[m-tk s]'(by omega)):=List.getElem?_eq_getElem _
    have y2:T[m]? =some (T[m]'(by omega)):=List.getElem?_eq_getElem _
    generalize T[m-tk s]'(by omega)=y at y1
    generalize T[m]'(by omega)=z at y2
    have hz:=hT.lo m hm z y2
    have w1:wr (z-1)=z-1:=wrI (by omega) (by omega)
    simp only[c1,c2,decide_false,cond_false,w0,ixNat y1,ixNat y2,Option.bind_some,w1]
    by_cases c3:y=z-1
    ·have m1:q.length+1<=maxElems:=by unfold maxElems;omega
     subst c3
     obtain⟨r,k1,k2,k3⟩:=f94_ex T n hT hn fu (m-tk s) (tk s) (q++[s]) (by omega) (by omega) (by simp;omega)
     simp only[ne_eq,not_true_eq_false,decide_false,cond_false,needP m1,k1,Option.bind_some]
     rcases k2 with⟨r1,q',r2,r3,r4⟩|⟨r1,r2⟩
     ·simp only[r1,cond_true,Option.bind_some,Sum.elim_inr]
      refine .inr ⟨_,rfl,rfl,s::q',by rw[r2];simp,?_,λx hx=>?_⟩
      ·show tk s+sumT q'=m;omega
      ·simp at hx;rcases hx with rfl|hx
       ·exact hs
       ·exact r4 x hx
     ·have w2:wr ((r.2.length:Int)-1)=(q.length:Int):=by rw[r2];simp;rw[wrI (by omega) (by omega)]
      have n1:(0:Int)<=(q.length:Int):=by omega
      have n2:q.length<=r.2.length:=by rw[r2];simp
      simp only[r1,cond_false,w2,needP n1,Int.toNat_natCast,needP n2,Option.bind_some,Sum.elim_inl]
      refine .inl ⟨_,rfl,rfl,by rw[r2];simp,skip λh=>?_⟩
      obtain⟨_,_,e,g1,g2,g3⟩:=h
      have:=k3 g3
      rw[r1]at this;cases this
    ·simp only[ne_eq,c3,not_false_eq_true,decide_true,cond_true,Option.bind_some,Sum.elim_inl]
     refine .inl ⟨_,rfl,rfl,rfl,skip λh=>?_⟩
     obtain⟨_,_,e,g1,g2,g3⟩:=h
     rw[y2]at g1;rw[y1]at g2
     cases g1;cases g2
     exact c3 rfl
   ·rintro⟨q,s2⟩ ⟨e0,e1,hno⟩
    simp only at e0 e1
    subst e0;subst e1
    simp only[Int.lt_irrefl,decide_false,cond_false]
    exact⟨_,rfl,rfl,λs hs=>hno s (by simpa using hs)⟩
theorem f42_ex(n:Int): ∃r,f42 n=some r/\(r.2=0->0<=n/\n<=4608/\(sumT r.1:Int)=n/\ ∀s∈r.1,s∈allS):=by
 unfold f42
 by_cases h1:n<0
 ·simp only[h1,decide_true,cond_true,Option.bind_some]
  exact⟨_,rfl,λh=>by cases h⟩
 by_cases h2:4608<n
 ·simp only[h1,h2,decide_true,decide_false,cond_true,cond_false,Option.bind_some]
  exact⟨_,rfl,λh=>by cases h⟩
 obtain⟨m,rfl⟩: ∃m:Nat,n=(m:Int):=⟨n.toNat,by omega⟩
 have w1:wr ((m:Int)+1)=((m+1:Nat):Int):=wrNat (by omega)
 have n1:(0:Int)<=((m+1:Nat):Int):=by omega
 have n2:((m+1:Nat):Int)<=(maxElems:Int):=by unfold maxElems;omega
 simp only[h1,h2,decide_false,cond_false,f92_eq,Option.bind_some,w1,needP n1,needP n2,Int.toNat_natCast]
 refine loopB (λk(s:List Int×Int)=>s.2=((k+1:Nat):Int)/\TabS s.1 m k) (λT=>TabS T m m) m (by omega) ⟨rfl,?_⟩ ?_ ?_ ?_
 ·refine⟨by simp,by simp,λk hk e he=>?_,λk hk hk2=>by omega,λk hk s hs ht=>?_⟩
  ·have:k=0:=by omega
   subst this
   simp at he
   subst he
   exact⟨by omega,by omega,λh=>by omega⟩
  ·have:=(allS_ok s hs).2.1
   omega
 ·rintro k ⟨T,s2⟩ hk ⟨e0,hT⟩
  simp only at e0 hT
  subst e0
  have c1:((k+1:Nat):Int)<=(m:Int):=by omega
  have hlen:=hT.len
  have x1:T[k+1]? =some (T[k+1]'(by omega)):=List.getElem?_eq_getElem _
  obtain⟨r,k1,k2⟩:=hT.step hk (by omega)
  simp only[c1,decide_true,cond_true,ixNat x1,Option.bind_some,k1]
  rw[wrNat (by omega)]
  exact .inl ⟨_,rfl,rfl,k2⟩
 ·rintro⟨T,s2⟩ ⟨e0,hT⟩
  simp only at e0 hT
  subst e0
  have c1: ¬(((m+1:Nat):Int)<=(m:Int)):=by omega
  simp only[c1,decide_false,cond_false]
  exact⟨_,rfl,hT⟩
 ·intro T hT
  have hlen:=hT.len
  have x1:T[m]? =some (T[m]'(by omega)):=List.getElem?_eq_getElem _
  generalize T[m]'(by omega)=e at x1
  simp only[ixNat x1,Option.bind_some]
  by_cases c1:e<0
  ·simp only[c1,decide_true,cond_true]
   exact⟨_,rfl,λh=>by cases h⟩
  ·obtain⟨r,k1,k2,k3⟩:=f94_ex T m hT (by omega) FUEL m 768 [] (by unfold FUEL;omega) (Nat.le_refl _) (by simp;omega)
   have k1:f94 (m:Int) 768 allS T []=some r:=k1
   simp only[c1,decide_false,cond_false,k1,Option.bind_some]
   refine⟨_,rfl,λ_=>⟨by omega,by omega,?_,?_⟩⟩
   ·rcases k2 with⟨r1,q,r2,r3,r4⟩|⟨r1,r2⟩
    ·simp only[r2,List.nil_append,r3]
    ·have:=k3 (chain_ex hT x1 (by omega));rw[r1]at this;cases this
   ·rcases k2 with⟨r1,q,r2,r3,r4⟩|⟨r1,r2⟩
    ·simp only[r2,List.nil_append];exact r4
    ·have:=k3 (chain_ex hT x1 (by omega));rw[r1]at this;cases this
end Go.Proofs.YtpbahncblggodaaGreat
set_option linter.all false
namespace Go.Proofs.YtpbahncblggodaaGreat
open Go Go.Am
set_option maxRecDepth 100000
theorem f85_in(a lo hi:Int):f85 a lo hi=some (inR a lo hi):=f85_eq a lo hi
structure HandOk (h:GHand):Prop where
 n1:1<=h.low.length
 n4:h.low.length<=4
 hi:h.high.length=h.low.length
 ba:h.barre.length=h.low.length
 el: ∀(i:Nat)a b,h.low[i]? =some a->h.high[i]? =some b->0<=a/\a<=b/\b<=8
 t1:1<=h.top
 t2:h.top<=18
 j1:0<=h.jump
 j2:h.jump<=18
 ws: ∀x∈[h.shift,h.lift,h.bar,h.stretch,h.slide],0<=x/\x<=1000
theorem f86_ex(l:List Int)(hs:Small l): ∃b,f86 l=some b/\True:=by
 have hs':l.length<=4194304:=hs
 unfold f86
 refine loopB (λk(s:Int)=>s=(l.length:Int)-1-k) (λ_=>True) l.length hs (by rw[wrI (by omega) (by omega)];omega) ?_ ?_ ?_
 ·intro k s hk hi
  subst hi
  by_cases h:0<(l.length:Int)-1-k
  ·have e1:l[l.length-1-k]? =some (l[l.length-1-k]'(by omega)):=List.getElem?_eq_getElem _
   have e2:l[l.length-2-k]? =some (l[l.length-2-k]'(by omega)):=List.getElem?_eq_getElem _
   have w:wr ((l.length:Int)-1-k-1)=((l.length-2-k:Nat):Int):=by rw[wrI (by omega) (by omega)];omega
   have i1:ix l ((l.length:Int)-1-k)=some (l[l.length-1-k]'(by omega)):=ixAt (l.length-1-k) (by omega) e1
   simp only[h,decide_true,cond_true,i1,w,ixNat e2,Option.bind_some,f149,f177]
   simp only[ne_eq,not_true_eq_false,decide_false,cond_false,Option.bind_some]
   cases decide (l[l.length-1-k]'(by omega)<l[l.length-2-k]'(by omega))
   ·exact .inl ⟨_,rfl,by omega⟩
   ·exact .inr ⟨_,rfl,trivial⟩
  ·simp only[h,decide_false,cond_false]
   exact .inr ⟨_,rfl,trivial⟩
 ·intro s hi
  subst hi
  have h: ¬0<(l.length:Int)-1-(l.length:Nat):=by omega
  simp only[h,decide_false,cond_false]
  exact⟨_,rfl,trivial⟩
 ·intro r _
  cases r<;>exact⟨_,rfl,trivial⟩
theorem f39_ex(h:GHand): ∃r,f39 h=some r/\(r=0->HandOk h):=by
 unfold f39
 simp only[f85_in]
 refine bindX (P1:=λj=>j=false->inR (h.low.length:Int) 1 4=true/\h.high.length=h.low.length/\h.barre.length=h.low.length) ?_ ?_
 ·simp only[Option.bind_some]
  cases h1:inR (h.low.length:Int) 1 4
  ·exact⟨_,rfl,λh=>by cases h⟩
  ·by_cases h2:h.high.length=h.low.length
   ·have e:((h.high.length:Int)≠(h.low.length:Int))=False:=by simp[h2]
    simp only[Bool.not_true,cond_false,e,decide_false]
    refine⟨_,rfl,λh3=>⟨trivial,h2,?_⟩⟩
    simp at h3;omega
   ·have e:((h.high.length:Int)≠(h.low.length:Int))=True:=by simp;omega
    simp only[Bool.not_true,cond_false,e,decide_true,cond_true]
    exact⟨_,rfl,λh=>by cases h⟩
 intro j hj
 cases j
 case true=>exact⟨60,rfl,λh=>by cases h⟩
 obtain⟨n1,n2,n3⟩:=hj rfl
 simp only[inR,Bool.and_eq_true,decide_eq_true_eq]at n1
 simp only[cond_false]
 refine loopB (λk(s:Int)=>s=(k:Int)/\ ∀(i:Nat)a b,i<k->h.low[i]? =some a->h.high[i]? =some b->0<=a/\a<=b/\b<=8) (λo=>match o with
  |.inl _=> ∀(i:Nat)a b,h.low[i]? =some a->h.high[i]? =some b->0<=a/\a<=b/\b<=8
  |.inr z=>z≠0) h.low.length (by omega) ⟨rfl,λi a b hi=>by omega⟩ ?_ ?_ ?_
 ·rintro k s hk ⟨rfl,hi⟩
  have e1:h.low[k]? =some (h.low[k]'hk):=List.getElem?_eq_getElem _
  have e2:h.high[k]? =some (h.high[k]'(by omega)):=List.getElem?_eq_getElem _
  generalize h.low[k]'hk=a at e1
  generalize h.high[k]'(by omega)=b at e2
  simp only[dltLen e1,cond_true,ixNat e1,ixNat e2,Option.bind_some,wrLen (l:=h.low) (by simp only[Small];omega) e1]
  by_cases c1:a<0
  ·simp only[c1,decide_true,cond_true,Option.bind_some]
   exact .inr ⟨_,rfl,show(60:Int)≠0 by decide⟩
  by_cases c2:b<a
  ·simp only[c1,c2,decide_true,decide_false,cond_true,cond_false,Option.bind_some]
   exact .inr ⟨_,rfl,show(60:Int)≠0 by decide⟩
  by_cases c3:8<b
  ·simp only[c1,c2,c3,decide_true,decide_false,cond_true,cond_false,Option.bind_some]
   exact .inr ⟨_,rfl,show(60:Int)≠0 by decide⟩
  simp only[c1,c2,c3,decide_true,decide_false,cond_true,cond_false,Option.bind_some]
  refine .inl ⟨_,rfl,rfl,λi a' b' hi' ha hb=>?_⟩
  by_cases hik:i<k
  ·exact hi i a' b' hik ha hb
  ·have:i=k:=by omega
   subst this
   rw[e1]at ha;rw[e2]at hb
   cases ha;cases hb
   omega
 ·rintro s ⟨rfl,hi⟩
  simp only[Int.lt_irrefl,decide_false,cond_false]
  exact⟨_,rfl,λi a b ha hb=>hi i a b (List.getElem?_eq_some_iff.1 ha).1 ha hb⟩
 intro o ho
 cases o
 case inr=>rename_i z;exact⟨z,rfl,λh=>absurd h ho⟩
 simp only[Sum.elim_inl]
 refine bindX (P1:=λj=>j=false->1<=h.top/\h.top<=18/\0<=h.jump/\h.jump<=18) ?_ ?_
 ·refine bindX (P1:=λ_=>True) (f86_ex h.low (by simp only[Small];omega)) λb1 _=>bifX (λ_=>⟨_,rfl,λh=>by cases h⟩) λ_=>
   bindX (P1:=λ_=>True) (f86_ex h.high (by simp only[Small];omega)) λb2 _=>bifX (λ_=>⟨_,rfl,λh=>by cases h⟩) λ_=>?_
  simp only[Option.bind_some]
  cases h3:inR h.top 1 18
  ·exact⟨_,rfl,λh=>by cases h⟩
  ·refine⟨_,rfl,λh4=>?_⟩
   simp only[inR,Bool.and_eq_true,decide_eq_true_eq,Bool.not_eq_false']at h3 h4
   omega
 intro j hj
 cases j
 case true=>exact⟨60,rfl,λh=>by cases h⟩
 obtain⟨t1,t2,j1,j2⟩:=hj rfl
 simp only[cond_false]
 refine loopB (λk(s:Int)=>s=(k:Int)/\ ∀x∈[h.shift,h.lift,h.bar,h.stretch,h.slide].take k,0<=x/\x<=1000) (λo=>match o with
  |.inl _=> ∀x∈[h.shift,h.lift,h.bar,h.stretch,h.slide],0<=x/\x<=1000
  |.inr z=>z≠0) 5 (by omega) ⟨rfl,λx hx=>by simp at hx⟩ ?_ ?_ ?_
 ·rintro k s hk ⟨rfl,hi⟩
  generalize hL:[h.shift,h.lift,h.bar,h.stretch,h.slide]=L at hi
  have hl:L.length=5:=by subst hL;rfl
  have e1:L[k]? =some (L[k]'(by omega)):=List.getElem?_eq_getElem _
  generalize L[k]'(by omega)=x at e1
  have c:(k:Int)<5:=by omega
  simp only[c,decide_true,cond_true,ixNat e1,Option.bind_some]
  rw[wrNat (by omega)]
  cases h3:inR x 0 1000
  ·exact .inr ⟨_,rfl,show(60:Int)≠0 by decide⟩
  ·refine .inl ⟨_,rfl,rfl,λy hy=>?_⟩
   rw[take_snoc e1,List.mem_append]at hy
   rcases hy with hy|hy
   ·exact hi y hy
   ·simp at hy;subst hy
    simpa[inR]using h3
 ·rintro s ⟨rfl,hi⟩
  exact⟨_,rfl,hi⟩
 intro o ho
 cases o
 case inr=>rename_i z;exact⟨z,rfl,λh=>absurd h ho⟩
 exact⟨0,rfl,λ_=>⟨by omega,by omega,n2,n3,by assumption,t1,t2,j1,j2,ho⟩⟩
end Go.Proofs.YtpbahncblggodaaGreat
set_option linter.all false
namespace Go.Proofs.YtpbahncblggodaaGreat
open Go Go.Am
set_option maxRecDepth 100000
theorem f14_ex(h:GHand): ∃r,f14 h=some r/\True:=by
 unfold f14
 refine bindX (P1:=λj=>j=false->(h.low.length:Int)<=4/\h.high.length=h.low.length) ?_ ?_
 ·by_cases c1:(h.low.length:Int)<1
  ·simp only[c1,decide_true,cond_true];exact⟨_,rfl,λh=>by cases h⟩
  by_cases c2:4<(h.low.length:Int)
  ·simp only[c1,c2,decide_true,decide_false,cond_true,cond_false];exact⟨_,rfl,λh=>by cases h⟩
  by_cases c3:h.high.length=h.low.length
  ·have e:((h.high.length:Int)≠(h.low.length:Int))=False:=by simp[c3]
   simp only[c1,c2,e,decide_false,cond_false]
   exact⟨_,rfl,λ_=>⟨by omega,c3⟩⟩
  ·have e:((h.high.length:Int)≠(h.low.length:Int))=True:=by simp;omega
   simp only[c1,c2,e,decide_true,decide_false,cond_true,cond_false]
   exact⟨_,rfl,λh=>by cases h⟩
 intro j hj
 cases j
 case true=>exact⟨60,rfl,trivial⟩
 obtain⟨n1,n2⟩:=hj rfl
 simp only[cond_false]
 refine loopB (λk(s:Int)=>s=(k:Int)) (λ_=>True) h.low.length (by omega) rfl ?_ ?_ ?_
 ·rintro k s hk rfl
  have e1:h.low[k]? =some (h.low[k]'hk):=List.getElem?_eq_getElem _
  have e2:h.high[k]? =some (h.high[k]'(by omega)):=List.getElem?_eq_getElem _
  simp only[dltLen e1,cond_true,ixNat e1,ixNat e2,Option.bind_some,wrLen (l:=h.low) (by simp only[Small];omega) e1]
  generalize hx:(bif decide (h.low[k]'hk<0)then some true else _:Option Bool)=x
  have hx': ∃b,x=some b:=by
   subst hx
   by_cases c1:h.low[k]'hk<0
   ·simp only[c1,decide_true,cond_true];exact⟨_,rfl⟩
   by_cases c2:h.high[k]'(by omega)<h.low[k]'hk
   ·simp only[c1,c2,decide_true,decide_false,cond_true,cond_false];exact⟨_,rfl⟩
   by_cases c3:8<h.high[k]'(by omega)
   ·simp only[c1,c2,c3,decide_true,decide_false,cond_true,cond_false];exact⟨_,rfl⟩
   by_cases c4:(0:Int)<(k:Int)
   ·have w:wr ((k:Int)-1)=((k-1:Nat):Int):=by rw[wrI (by omega) (by omega)];omega
    have e3:h.low[k-1]? =some (h.low[k-1]'(by omega)):=List.getElem?_eq_getElem _
    have e4:h.high[k-1]? =some (h.high[k-1]'(by omega)):=List.getElem?_eq_getElem _
    simp only[c1,c2,c3,c4,decide_true,decide_false,cond_true,cond_false,w,ixNat e3,ixNat e4,Option.bind_some]
    cases decide (h.low[k]'hk<h.low[k-1]'(by omega))<;>exact⟨_,rfl⟩
   ·simp only[c1,c2,c3,c4,decide_false,cond_false];exact⟨_,rfl⟩
  obtain⟨b,rfl⟩:=hx'
  cases b
  ·exact .inl ⟨_,rfl,rfl⟩
  ·exact .inr ⟨_,rfl,trivial⟩
 ·rintro s rfl
  simp only[Int.lt_irrefl,decide_false,cond_false]
  exact⟨_,rfl,trivial⟩
 intro o _
 cases o
 case inr=>exact⟨_,rfl,trivial⟩
 simp only[Sum.elim_inl]
 refine bindX (P1:=λ_=>True) ?_ ?_
 ·cases decide (h.top<1)
  ·cases decide (18<h.top)
   ·cases decide (h.jump<0)<;>exact⟨_,rfl,trivial⟩
   ·exact⟨_,rfl,trivial⟩
  ·exact⟨_,rfl,trivial⟩
 intro j _
 cases j
 case true=>exact⟨60,rfl,trivial⟩
 simp only[cond_false]
 refine loopB (λk(s:Int)=>s=(k:Int)) (λ_=>True) 5 (by omega) rfl ?_ ?_ ?_
 ·rintro k s hk rfl
  generalize hL:[h.shift,h.lift,h.bar,h.stretch,h.slide]=L
  have hl:L.length=5:=by subst hL;rfl
  have e1:L[k]? =some (L[k]'(by omega)):=List.getElem?_eq_getElem _
  generalize L[k]'(by omega)=x at e1
  have c:(k:Int)<5:=by omega
  simp only[c,decide_true,cond_true,ixNat e1,Option.bind_some]
  rw[wrNat (by omega)]
  cases decide (x<0)
  ·cases decide (1000<x)
   ·exact .inl ⟨_,rfl,rfl⟩
   ·exact .inr ⟨_,rfl,trivial⟩
  ·exact .inr ⟨_,rfl,trivial⟩
 ·rintro s rfl
  exact⟨_,rfl,trivial⟩
 intro o _
 cases o<;>exact⟨_,rfl,trivial⟩
def onC(x:Int)(p:GPlace):Bool:=decide (p.course=x)
theorem f185_1_eq(l:List GPlace)(x:Int)(hs:Small l):f185_1 l x=some (idxF (onC x) l):=by
 unfold f185_1
 rw[loop_find l (onC x) (λi _=>(i:Int)) hs]
 ·simp only[Option.bind_some,findS_idx,idxF]
  cases l.findIdx? _<;>simp
 ·intro i y hy
  simp only[dltLen hy,cond_true,ixNat hy,Option.bind_some,f186,onC]
  cases decide (y.course=x)<;>rfl
 ·simp
theorem f119_eq(c:GChord)(x:Int)(hs:Small c.down):f119 c x=some (idxF (onC x) c.down):=by
 unfold f119;rw[f185_1_eq _ _ hs];rfl
theorem f223_eq(l:List GPlace)(x:Int)(hs:Small l):f223 l x=some (l.any (onC x)):=by
 unfold f223 f190 f185
 rw[loop_find l (onC x) (λi _=>(i:Int)) hs]
 ·simp only[Option.bind_some,findS_idx]
  rw[<-idxF_nonneg]
  unfold idxF
  cases l.findIdx? _<;>simp
 ·intro i y hy
  simp only[dltLen hy,cond_true,ixNat hy,Option.bind_some,f274,onC]
  cases decide (y.course=x)<;>rfl
 ·simp
theorem idx_any{α:Type}{p:α->Bool}{l:List α}:decide (idxF p l<0)=!(l.any p):=by
 rw[<-idxF_nonneg]
 by_cases h:idxF p l<0
 ·simp[h]
 ·simp[h];omega
theorem idx_get{α:Type}{p:α->Bool}{l:List α}(h:l.any p=true): ∃(k:Nat)(x:α),idxF p l=(k:Int)/\l[k]? =some x/\p x=true:=by
 unfold idxF
 cases hf:l.findIdx? p with
 |none=>
  rw[List.findIdx?_eq_none_iff]at hf
  obtain⟨x,hx,hp⟩:=List.any_eq_true.1 h
  rw[hf x hx]at hp;cases hp
 |some k=>
  obtain⟨hk,h1,_⟩:=List.findIdx?_eq_some_iff_getElem.1 hf
  exact⟨k,_,rfl,List.getElem?_eq_getElem hk,h1⟩
def ascI(l:List Int):Prop:= ∀(i:Nat)a b,l[i]? =some a->l[i+1]? =some b->a<b
theorem f118_ex(l:List Int)(hs:Small l): ∃b,f118 l=some b/\(b=true↔ascI l):=by
 have hs':l.length<=4194304:=hs
 unfold f118
 refine loopB (λk(s:Int)=>s=((k+1:Nat):Int)/\ ∀(i:Nat)a b,i<k->l[i]? =some a->l[i+1]? =some b->a<b) (λo=>match o with
  |.inl _=>ascI l
  |.inr b=>b=false/\ ¬ascI l) (l.length-1) (by omega) ⟨rfl,λi a b h=>by omega⟩ ?_ ?_ ?_
 ·rintro k s hk ⟨rfl,hi⟩
  have e1:l[k+1]? =some (l[k+1]'(by omega)):=List.getElem?_eq_getElem _
  have e2:l[k]? =some (l[k]'(by omega)):=List.getElem?_eq_getElem _
  have w:wr (((k+1:Nat):Int)-1)=(k:Int):=by rw[wrI (by omega) (by omega)];omega
  simp only[dltLen e1,cond_true,ixNat e1,w,ixNat e2,Option.bind_some]
  rw[wrNat (by omega)]
  by_cases c:l[k+1]'(by omega)<=l[k]'(by omega)
  ·simp only[c,decide_true,cond_true]
   exact .inr ⟨_,rfl,rfl,λh=>by have:=h k _ _ e2 e1;omega⟩
  ·simp only[c,decide_false,cond_false]
   refine .inl ⟨_,rfl,rfl,λi a b hik ha hb=>?_⟩
   by_cases hlt:i<k
   ·exact hi i a b hlt ha hb
   ·have:i=k:=by omega
    subst this
    rw[e2]at ha;rw[e1]at hb
    cases ha;cases hb
    omega
 ·rintro s ⟨rfl,hi⟩
  have c: ¬(((l.length-1+1:Nat):Int)<(l.length:Int)):=by omega
  simp only[c,decide_false,cond_false]
  refine⟨_,rfl,λi a b ha hb=>hi i a b ?_ ha hb⟩
  have:=(List.getElem?_eq_some_iff.1 hb).1
  omega
 intro o ho
 cases o with
 |inl _=>exact⟨true,rfl,by simpa using ho⟩
 |inr b=>
  obtain⟨h1,h2⟩:=ho
  subst h1
  exact⟨false,rfl,by simpa using h2⟩
structure RightC (c:GChord):Prop where
 da: ∀(i:Nat)p q,c.down[i]? =some p->c.down[i+1]? =some q->p.course<q.course
 dc: ∀p∈c.down,1<=p.course/\p.course<=14/\1<=p.fret/\p.fret<=18
 ha:ascI c.held
 oa:ascI c.open_
 hd: ∀x∈c.held,c.down.any (onC x)=true
 oo: ∀x∈c.open_,1<=x/\x<=14/\c.down.any (onC x)=false
theorem f59_ex(c:GChord)(s1:Small c.down)(s2:Small c.held)(s3:Small c.open_): ∃b,f59 c=some b/\(b=true↔RightC c):=by
 have s1':c.down.length<=4194304:=s1
 have s2':c.held.length<=4194304:=s2
 have s3':c.open_.length<=4194304:=s3
 unfold f59
 refine loopB (λk(s:Int×Int)=>s=((c.down[k-1]?.map GPlace.course).getD 0*(if k=0 then 0 else 1),(k:Int))/\(∀p∈c.down.take k,1<=p.course/\p.course<=14/\1<=p.fret/\p.fret<=18)/\
   ∀(i:Nat)p q,i+1<k->c.down[i]? =some p->c.down[i+1]? =some q->p.course<q.course) (λo=>match o with
  |.inl _=>(∀(i:Nat)p q,c.down[i]? =some p->c.down[i+1]? =some q->p.course<q.course)/\ ∀p∈c.down,1<=p.course/\p.course<=14/\1<=p.fret/\p.fret<=18
  |.inr b=>b=false/\ ¬RightC c) c.down.length s1' ⟨by simp,λp hp=>by simp at hp,λi p q h=>by omega⟩ ?_ ?_ ?_
 ·rintro k s hk ⟨rfl,h1,h2⟩
  have e1:c.down[k]? =some (c.down[k]'hk):=List.getElem?_eq_getElem _
  generalize c.down[k]'hk=y at e1
  simp only[dltLen e1,cond_true,ixNat e1,Option.bind_some,wrLen s1 e1,f85_in]
  generalize hL:(c.down[k-1]?.map GPlace.course).getD 0*(if k=0 then 0 else 1)=L
  by_cases c1:y.course<=L
  ·simp only[c1,decide_true,cond_true,Option.bind_some]
   refine .inr ⟨_,rfl,rfl,λhr=>?_⟩
   by_cases hk0:k=0
   ·subst hk0
    simp at hL
    subst hL
    have:=hr.dc y (List.mem_of_getElem? e1)
    omega
   ·have e2:c.down[k-1]? =some (c.down[k-1]'(by omega)):=List.getElem?_eq_getElem _
    rw[e2]at hL
    simp[hk0]at hL
    have:=hr.da (k-1) _ y e2 (by rw[Nat.sub_add_cancel (by omega)];exact e1)
    omega
  by_cases c2:14<y.course
  ·simp only[c1,c2,decide_true,decide_false,cond_true,cond_false,Option.bind_some]
   refine .inr ⟨_,rfl,rfl,λhr=>?_⟩
   have:=hr.dc y (List.mem_of_getElem? e1)
   omega
  cases c3:inR y.fret 1 18
  ·simp only[c1,c2,decide_false,cond_false,Option.bind_some,Bool.not_false,cond_true]
   refine .inr ⟨_,rfl,rfl,λhr=>?_⟩
   have:=hr.dc y (List.mem_of_getElem? e1)
   simp[inR]at c3
   omega
  ·simp only[c1,c2,decide_false,cond_false,Option.bind_some,Bool.not_true]
   simp only[inR,Bool.and_eq_true,decide_eq_true_eq]at c3
   have hL0:0<=L:=by
    by_cases hk0:k=0
    ·subst hk0;simp at hL;omega
    ·have e2:c.down[k-1]? =some (c.down[k-1]'(by omega)):=List.getElem?_eq_getElem _
     have hm:c.down[k-1]'(by omega)∈c.down.take k:=by
      rw[List.mem_take_iff_getElem]
      exact⟨k-1,by omega,rfl⟩
     have:=h1 _ hm
     rw[e2]at hL
     simp[hk0]at hL
     omega
   refine .inl ⟨_,rfl,?_,λp hp=>?_,λi p q hi hp hq=>?_⟩
   ·simp only[Nat.add_sub_cancel,e1,Option.map_some,Option.getD_some]
    simp
   ·rw[take_snoc e1,List.mem_append]at hp
    rcases hp with hp|hp
    ·exact h1 p hp
    ·simp at hp;subst hp;omega
   ·by_cases hik:i+1<k
    ·exact h2 i p q hik hp hq
    ·have hk1:k=i+1:=by omega
     subst hk1
     rw[e1]at hq;cases hq
     simp only[Nat.add_sub_cancel,hp,Option.map_some,Option.getD_some]at hL
     simp at hL
     omega
 ·rintro s ⟨rfl,h1,h2⟩
  simp only[Int.lt_irrefl,decide_false,cond_false]
  refine⟨_,rfl,λi p q hp hq=>h2 i p q (List.getElem?_eq_some_iff.1 hq).1 hp hq,λp hp=>h1 p (by simpa using hp)⟩
 intro o ho
 cases o with
 |inr b=>obtain⟨rfl,h⟩:=ho;exact⟨false,rfl,by simpa using h⟩
 |inl _=>
 obtain⟨d1,d2⟩:=ho
 simp only[Sum.elim_inl]
 refine bindX (P1:=λj=>j=false↔(ascI c.held/\ascI c.open_)) ?_ ?_
 ·refine bindX (f118_ex c.held s2) λb1 h1=>?_
  cases b1
  ·exact⟨true,rfl,by simp at h1;simp[h1]⟩
  ·refine bindX (f118_ex c.open_ s3) λb2 h2=>⟨!b2,rfl,?_⟩
   simp at h1
   cases b2<;>simp_all
 intro j hj
 cases j
 case true=>
  refine⟨false,rfl,?_⟩
  simp at hj
  simp
  exactλh=>hj h.ha h.oa
 obtain⟨a1,a2⟩:=hj.1 rfl
 simp only[cond_false]
 refine loopB (λk(s:Int)=>s=(k:Int)/\ ∀x∈c.held.take k,c.down.any (onC x)=true) (λo=>match o with
  |.inl _=> ∀x∈c.held,c.down.any (onC x)=true
  |.inr b=>b=false/\ ¬RightC c) c.held.length s2' ⟨rfl,λp hp=>by simp at hp⟩ ?_ ?_ ?_
 ·rintro k s hk ⟨rfl,h1⟩
  have e1:c.held[k]? =some (c.held[k]'hk):=List.getElem?_eq_getElem _
  generalize c.held[k]'hk=y at e1
  simp only[dltLen e1,cond_true,ixNat e1,Option.bind_some,wrLen s2 e1,f119_eq c _ s1,idx_any]
  cases c1:c.down.any (onC y)
  ·exact .inr ⟨_,rfl,rfl,λhr=>by have:=hr.hd y (List.mem_of_getElem? e1);rw[c1]at this;cases this⟩
  ·refine .inl ⟨_,rfl,rfl,λp hp=>?_⟩
   rw[take_snoc e1,List.mem_append]at hp
   rcases hp with hp|hp
   ·exact h1 p hp
   ·simp at hp;subst hp;exact c1
 ·rintro s ⟨rfl,h1⟩
  simp only[Int.lt_irrefl,decide_false,cond_false]
  exact⟨_,rfl,λp hp=>h1 p (by simpa using hp)⟩
 intro o ho
 cases o with
 |inr b=>obtain⟨rfl,h⟩:=ho;exact⟨false,rfl,by simpa using h⟩
 |inl _=>
 simp only[Sum.elim_inl]
 refine loopB (λk(s:Int)=>s=(k:Int)/\ ∀x∈c.open_.take k,1<=x/\x<=14/\c.down.any (onC x)=false) (λo=>match o with
  |.inl _=> ∀x∈c.open_,1<=x/\x<=14/\c.down.any (onC x)=false
  |.inr b=>b=false/\ ¬RightC c) c.open_.length s3' ⟨rfl,λp hp=>by simp at hp⟩ ?_ ?_ ?_
 ·rintro k s hk ⟨rfl,h1⟩
  have e1:c.open_[k]? =some (c.open_[k]'hk):=List.getElem?_eq_getElem _
  generalize c.open_[k]'hk=y at e1
  simp only[dltLen e1,cond_true,ixNat e1,Option.bind_some,wrLen s3 e1,f85_in,f119_eq c _ s1,idxF_nonneg]
  cases c0:inR y 1 14
  ·refine .inr ⟨_,rfl,rfl,λhr=>?_⟩
   have:=hr.oo y (List.mem_of_getElem? e1)
   simp[inR]at c0
   omega
  cases c1:c.down.any (onC y)
  ·refine .inl ⟨_,rfl,rfl,λp hp=>?_⟩
   rw[take_snoc e1,List.mem_append]at hp
   rcases hp with hp|hp
   ·exact h1 p hp
   ·simp at hp;subst hp
    simp[inR]at c0
    exact⟨c0.1,c0.2,c1⟩
  ·exact .inr ⟨_,rfl,rfl,λhr=>by have:=hr.oo y (List.mem_of_getElem? e1);rw[c1]at this;exact Bool.noConfusion this.2.2⟩
 ·rintro s ⟨rfl,h1⟩
  simp only[Int.lt_irrefl,decide_false,cond_false]
  exact⟨_,rfl,λp hp=>h1 p (by simpa using hp)⟩
 intro o h3
 cases o with
 |inr b=>obtain⟨rfl,h⟩:=h3;exact⟨false,rfl,by simpa using h⟩
 |inl _=>exact⟨true,rfl,by simp;exact⟨d1,d2,a1,a2,ho,h3⟩⟩
end Go.Proofs.YtpbahncblggodaaGreat
set_option linter.all false
namespace Go.Proofs.YtpbahncblggodaaGreat
open Go Go.Am
set_option maxRecDepth 100000
theorem f187_eq(l:List Int)(x:Int)(hs:Small l):f187 l x=some (idxF (λy=>decide (x=y)) l):=by
 unfold f187
 rw[loop_find l (λy=>decide (x=y)) (λi _=>(i:Int)) hs]
 ·simp only[Option.bind_some,findS_idx,idxF]
  cases l.findIdx? _<;>simp
 ·intro i y hy
  simp only[dltLen hy,cond_true,ixNat hy,Option.bind_some]
  cases decide (x=y)<;>rfl
 ·simp
theorem f188_eq(l:List Int)(a b:Int)(hs:Small l):f188 l a b=some (l.any λx=>decide (a<x)&&decide (x<b)):=by
 unfold f188 f243
 rw[loop_find l (λx=>decide (a<x)&&decide (x<b)) (λi _=>(i:Int)) hs]
 ·simp only[Option.bind_some,findS_idx]
  rw[<-idxF_nonneg]
  unfold idxF
  cases l.findIdx? _<;>simp
 ·intro i y hy
  simp only[dltLen hy,cond_true,ixNat hy,Option.bind_some,f189]
  cases decide (a<y)<;>cases decide (y<b)<;>rfl
 ·simp
theorem f190_1_eq(l:List GPlace)(a:Int)(hs:Small l):f190_1 l a=some (l.any λx=>decide (x.fret<a)):=by
 unfold f190_1 f185_2
 rw[loop_find l (λx:GPlace=>decide (x.fret<a)) (λi _=>(i:Int)) hs]
 ·simp only[Option.bind_some,findS_idx]
  rw[<-idxF_nonneg]
  unfold idxF
  cases l.findIdx? _<;>simp
 ·intro i y hy
  simp only[dltLen hy,cond_true,ixNat hy,Option.bind_some,f191]
  cases decide (y.fret<a)<;>rfl
 ·simp
theorem idx_first{α:Type}{p:α->Bool}{l:List α}{k:Nat}{x:α}(hx:l[k]? =some x)(hp:p x=true):0<=idxF p l/\idxF p l<=(k:Int):=by
 have ha:l.any p=true:=List.any_eq_true.2 ⟨x,List.mem_of_getElem? hx,hp⟩
 obtain⟨j,y,h1,h2,h3⟩:=idx_get ha
 rw[h1]
 refine⟨by omega,?_⟩
 by_cases hjk:j<=k
 ·omega
 ·exfalso
  unfold idxF at h1
  cases hf:l.findIdx? p with
  |none=>rw[hf]at h1;simp at h1
  |some m=>
   rw[hf]at h1
   obtain⟨hm,_,h5⟩:=List.findIdx?_eq_some_iff_getElem.1 hf
   have e:m=j:=by simp only at h1;omega
   subst e
   have:=h5 k (by omega)
   have hxk:=(List.getElem?_eq_some_iff.1 hx).2
   rw[hxk]at this
   exact this hp
theorem f121_ex(h:GHand)(c:GChord)(fs:List Int)(hn:h.low.length<=4)(hb:h.barre.length=h.low.length)(hl:fs.length=c.down.length)(hs:Small c.down)(ho:Small c.open_):
  ∃b,f121 h c fs=some b/\(fs.length<=1->b=true):=by
 have hs':c.down.length<=4194304:=hs
 have hf:Small fs:=by simp only[Small];omega
 unfold f121
 refine loopB (λk(s:Int)=>s=((k+1:Nat):Int)) (λo=>fs.length<=1->o=.inl ()) h.low.length (by omega) rfl ?_ ?_ ?_
 ·rintro k s hk rfl
  have c0:((k+1:Nat):Int)<=(h.low.length:Int):=by omega
  simp only[c0,decide_true,cond_true,f187_eq fs _ hf,Option.bind_some,idx_any]
  rw[wrNat (by omega)]
  cases ha:fs.any (λy=>decide (((k+1:Nat):Int)=y))
  ·exact .inl ⟨_,rfl,by omega⟩
  obtain⟨j,y,h1,h2,h3⟩:=idx_get ha
  have h3:=of_decide_eq_true h3
  subst h3
  have hj:=(List.getElem?_eq_some_iff.1 h2).1
  simp only[h1,Bool.not_true,cond_false]
  have key: ∃m:Nat,loopN (σ:=(Int×Int)) (τ:=Int) (λ((l3_9,l3_30):(Int×Int))=>bif (decide (l3_30<(fs.length:Int)))then((((ix fs l3_30).bind λy5=>bif (decide (y5=((k+1:Nat):Int)))then(some l3_30)else(some l3_9)):Option Int).bind λ(j4_9:Int)=>some (.inl (j4_9,(wr (l3_30+1)))))else(some (.inr l3_9))) FUEL ((j:Int),0)=some (m:Int)/\j<=m/\m<fs.length:=by
   have:=loop_E (body:=λ((l3_9,l3_30):(Int×Int))=>bif (decide (l3_30<(fs.length:Int)))then((((ix fs l3_30).bind λy5=>bif (decide (y5=((k+1:Nat):Int)))then(some l3_30)else(some l3_9)):Option Int).bind λ(j4_9:Int)=>some (.inl (j4_9,(wr (l3_30+1)))))else(some (.inr l3_9)))
    (λn(s:Int×Int)=>s.2=(n:Int)/\ ∃m:Nat,s.1=(m:Int)/\j<=m/\m<fs.length) (λr=> ∃m:Nat,r=(m:Int)/\j<=m/\m<fs.length) fs.length (s0:=((j:Int),0)) hf ⟨rfl,j,rfl,Nat.le_refl _,hj⟩ ?_ ?_
   ·obtain⟨r,e1,m,e2,e3⟩:=this
    subst e2
    exact⟨m,e1,e3⟩
   ·rintro n ⟨s1,s2⟩ hn ⟨e1,m,e2,e3,e4⟩
    simp only at e1 e2
    subst e1;subst e2
    have g1:fs[n]? =some (fs[n]'hn):=List.getElem?_eq_getElem _
    generalize fs[n]'hn=z at g1
    simp only[dltLen g1,cond_true,ixNat g1,Option.bind_some,wrLen hf g1]
    by_cases hz:z=((k+1:Nat):Int)
    ·simp only[hz,decide_true,cond_true,Option.bind_some]
     refine .inl ⟨_,rfl,rfl,n,rfl,?_,hn⟩
     have:=idx_first (p:=λy=>decide (((k+1:Nat):Int)=y)) g1 (by simp[hz])
     rw[h1]at this
     omega
    ·simp only[hz,decide_false,cond_false,Option.bind_some]
     exact .inl ⟨_,rfl,rfl,m,rfl,e3,e4⟩
   ·rintro⟨s1,s2⟩ ⟨e1,m,e2,e3,e4⟩
    simp only at e1 e2
    subst e1;subst e2
    simp only[Int.lt_irrefl,decide_false,cond_false]
    exact⟨_,rfl,m,rfl,e3,e4⟩
  obtain⟨m,k1,k2,k3⟩:=key
  simp only[k1,Option.bind_some]
  by_cases hjm:j=m
  ·subst hjm
   simp only[decide_true,cond_true]
   exact .inl ⟨_,rfl,by omega⟩
  have c2: ¬((j:Int)=(m:Int)):=by omega
  have hgt: ¬fs.length<=1:=by omega
  have b1:h.barre[k]? =some (h.barre[k]'(by omega)):=List.getElem?_eq_getElem _
  have w:wr (((k+1:Nat):Int)-1)=(k:Int):=by rw[wrI (by omega) (by omega)];omega
  have d1:c.down[j]? =some (c.down[j]'(by omega)):=List.getElem?_eq_getElem _
  have d2:c.down[m]? =some (c.down[m]'(by omega)):=List.getElem?_eq_getElem _
  simp only[c2,decide_false,cond_false,w,ixNat b1,ixNat d1,ixNat d2,Option.bind_some,f188_eq _ _ _ ho]
  have n1:(0:Int)<=(j:Int):=by omega
  have n2:(0:Int)<=(m:Int):=by omega
  have n3:((j:Int)).toNat<=((m:Int)).toNat:=by omega
  have n4:((m:Int)).toNat<=c.down.length:=by omega
  have hsm:Small ((c.down.take ((m:Int)).toNat).drop ((j:Int)).toNat):=by simp only[Small,List.length_drop,List.length_take];omega
  simp only[needP n1,needP n2,needP n3,needP n4,f190_1_eq _ _ hsm,Option.bind_some]
  generalize h.barre[k]'(by omega)=x1
  generalize decide ((c.down[j]'(by omega)).fret≠(c.down[m]'(by omega)).fret)=x2
  generalize(c.open_.any λx=>_)=x3
  generalize(List.any _ λx:GPlace=>_)=x4
  cases x1
  ·exact .inr ⟨_,rfl,λh=>absurd h hgt⟩
  cases x2
  ·cases x3
   ·cases x4
    ·exact .inl ⟨_,rfl,by omega⟩
    ·exact .inr ⟨_,rfl,λh=>absurd h hgt⟩
   ·exact .inr ⟨_,rfl,λh=>absurd h hgt⟩
  ·exact .inr ⟨_,rfl,λh=>absurd h hgt⟩
 ·rintro s rfl
  have c0: ¬(((h.low.length+1:Nat):Int)<=(h.low.length:Int)):=by omega
  simp only[c0,decide_false,cond_false]
  exact⟨_,rfl,λ_=>rfl⟩
 ·intro o ho
  cases o with
  |inl _=>exact⟨true,rfl,λ_=>rfl⟩
  |inr b=>exact⟨b,rfl,λh=>by have:=ho h;cases this⟩
theorem f121_one: @f121_1= @f121:=rfl
theorem f121_cong(h:GHand)(c c':GChord)(fs:List Int)(hd:c.down=c'.down)(ho:c.open_=c'.open_):f121 h c fs=f121 h c' fs:=by
 unfold f121;rw[hd,ho]
def reachB(h:GHand)(pos f fret:Int):Bool:=match h.low[(f-1).toNat]?,h.high[(f-1).toNat]? with
 |some a,some b=>inR fret (wr (pos+a)) (wr (pos+b))
 |_,_=>false
theorem f122_eq(h:GHand)(hh:HandOk h)(pos f fret:Int)(h1:1<=f)(h2:f<=h.low.length):f122 h pos f fret=some (reachB h pos f fret):=by
 have hi:=hh.hi
 have h4:=hh.n4
 have e:wr (f-1)=(((f-1).toNat:Nat):Int):=by rw[wrI (by omega) (by omega)];omega
 have e1:h.low[(f-1).toNat]? =some (h.low[(f-1).toNat]'(by omega)):=List.getElem?_eq_getElem _
 have e2:h.high[(f-1).toNat]? =some (h.high[(f-1).toNat]'(by omega)):=List.getElem?_eq_getElem _
 unfold f122 reachB
 simp only[e,ixNat e1,ixNat e2,e1,e2,Option.bind_some,f85_in]
def agreeB(p q:GPlace)(f g:Int):Bool:=if p.fret<q.fret then decide (f<g)else if q.fret<p.fret then decide (g<f)else if p.course<q.course then decide (g<=f)else decide (f<=g)
theorem f123_eq(p q:GPlace)(f g:Int):f123 p q f g=some (agreeB p q f g):=by
 unfold f123 agreeB
 by_cases h1:p.fret<q.fret
 ·simp[h1]
 by_cases h2:q.fret<p.fret
 ·simp[h1,h2]
 by_cases h3:p.course<q.course
 ·simp[h1,h2,h3]
 ·simp[h1,h2,h3]
structure PFit (h:GHand) (c:GChord) (pos:Int) (fs:List Int):Prop where
 len:fs.length<=c.down.length
 fit: ∀(i:Nat)f p,fs[i]? =some f->c.down[i]? =some p->1<=f/\f<=h.low.length/\reachB h pos f p.fret=true
 agr: ∀(i j:Nat)f g p q,i<j->fs[i]? =some f->fs[j]? =some g->c.down[i]? =some p->c.down[j]? =some q->agreeB p q f g=true
structure Fit (h:GHand) (c:GChord) (g:GGrip):Prop where
 p1:1<=g.pos
 p2:g.pos<=h.top
 len:g.fingers.length=c.down.length
 fit:PFit h c g.pos g.fingers
 sp:f121 h c g.fingers=some true
end Go.Proofs.YtpbahncblggodaaGreat
set_option linter.all false
namespace Go.Proofs.YtpbahncblggodaaGreat
open Go Go.Am
set_option maxRecDepth 100000
theorem f45_1_eq(l:List Int)(h:Small l):f45_1 l=some l:=by
 unfold f45_1
 by_cases c:l=[]
 ·subst c;simp
 ·have:l.length<=maxElems:=by simp only[Small]at h;unfold maxElems;omega
  rw[show l.isEmpty=false from by simpa using c];simp[needP this]
theorem fuel_big:4194304<FUEL:=by unfold FUEL;omega
theorem PFit.snoc{h:GHand}{c:GChord}{pos:Int}{fs:List Int}{f:Int}{p:GPlace}(hf:PFit h c pos fs)(hp:c.down[fs.length]? =some p)(h1:1<=f)(h2:f<=h.low.length)(h3:reachB h pos f p.fret=true)
  (h4: ∀(i:Nat)g q,fs[i]? =some g->c.down[i]? =some q->agreeB q p g f=true):PFit h c pos (fs++[f]):=by
 have hlt:=(List.getElem?_eq_some_iff.1 hp).1
 refine⟨by simp;omega,λi g q hg hq=>?_,λi j g1 g2 q1 q2 hij e1 e2 e3 e4=>?_⟩
 ·by_cases hi:i<fs.length
  ·rw[List.getElem?_append_left hi]at hg
   exact hf.fit i g q hg hq
  ·have hl:=(List.getElem?_eq_some_iff.1 hg).1
   simp at hl
   have:i=fs.length:=by omega
   subst this
   rw[hp]at hq;cases hq
   simp at hg;subst hg
   exact⟨h1,h2,h3⟩
 ·have hl:=(List.getElem?_eq_some_iff.1 e2).1
  simp at hl
  have hi:i<fs.length:=by omega
  rw[List.getElem?_append_left hi]at e1
  by_cases hj:j<fs.length
  ·rw[List.getElem?_append_left hj]at e2
   exact hf.agr i j g1 g2 q1 q2 hij e1 e2 e3 e4
  ·have:j=fs.length:=by omega
   subst this
   rw[hp]at e4;cases e4
   simp at e2;subst e2
   exact h4 i g1 q1 e1 e3
theorem f120_ex(h:GHand)(hh:HandOk h)(c:GChord)(pos:Int)(hp1:1<=pos)(hp2:pos<=h.top)(hd:c.down.length<=14)(ho:Small c.open_): ∀(fu:Nat)(fs:List Int)(l:List GGrip),PFit h c pos fs->c.down.length-fs.length<fu->
  l.length<=201->(fs.length=c.down.length->l.length<=200)->
  ∃r,f120r fu pos fs c h l=some r/\(r.1=fs/\ ∃m,r.2=l++m/\(l++m).length<=201/\ ∀g∈m,g.pos=pos/\Fit h c g)
 |0,fs,l,hf,hu,hl,hl2=>by omega
 |fu+1,fs,l,hf,hu,hl,hl2=>by
  have hlen:=hf.len
  have hsd:Small c.down:=by simp only[Small];omega
  have hsf:Small fs:=by simp only[Small];omega
  have hn4:=hh.n4
  unfold f120r
  by_cases he:fs.length=c.down.length
  ·have e:decide ((fs.length:Int)=(c.down.length:Int))=true:=by simp[he]
   simp only[e,cond_true]
   obtain⟨b,hb,_⟩:=f121_ex h c fs hn4 hh.ba he hsd ho
   have hl2:=hl2 he
   have m1:l.length+1<=maxElems:=by unfold maxElems;omega
   simp only[hb,Option.bind_some,f45_1_eq fs hsf,needP m1]
   cases b
   ·exact⟨_,rfl,rfl,[],by simp,by simpa using hl,λg hg=>by simp at hg⟩
   ·refine⟨_,rfl,rfl,[⟨pos,fs⟩],rfl,by simp;omega,λg hg=>?_⟩
    simp at hg
    subst hg
    exact⟨rfl,hp1,hp2,he,hf,hb⟩
  ·have e:decide ((fs.length:Int)=(c.down.length:Int))=false:=by simp;omega
   simp only[e,cond_false]
   have hlt:fs.length<c.down.length:=by omega
   have p0:c.down[fs.length]? =some (c.down[fs.length]'hlt):=List.getElem?_eq_getElem _
   generalize c.down[fs.length]'hlt=p at p0
   refine loopB (λk(s:List Int×List GGrip×Int)=>s.1=fs/\s.2.2=((k+1:Nat):Int)/\ ∃m,s.2.1=l++m/\(l++m).length<=201/\ ∀g∈m,g.pos=pos/\Fit h c g)
    (λr=>r.1=fs/\ ∃m,r.2=l++m/\(l++m).length<=201/\ ∀g∈m,g.pos=pos/\Fit h c g) h.low.length (by omega) ⟨rfl,rfl,[],by simp,by simpa using hl,λg hg=>by simp at hg⟩ ?_ ?_ ?_
   ·rintro k ⟨s1,s2,s3⟩ hk ⟨e1,e2,m,e3,hm1,hm2⟩
    simp only at e1 e2 e3
    subst e1;subst e2;subst e3
    have c0:((k+1:Nat):Int)<=(h.low.length:Int):=by omega
    simp only[c0,decide_true,cond_true,Option.bind_some]
    by_cases c1:((l++m).length:Int)<=200
    ·simp only[c1,decide_true,cond_true,ixNat p0,Option.bind_some,f122_eq h hh pos _ p.fret (show 1<=((k+1:Nat):Int)by omega) c0]
     rw[wrNat (by omega)]
     cases hr:reachB h pos ((k+1:Nat):Int) p.fret
     ·exact .inl ⟨_,rfl,rfl,rfl,m,rfl,hm1,hm2⟩
     simp only[Bool.not_true,cond_false]
     have key: ∃o,loopN (σ:=Int) (τ:=(Unit⊕(List Int×List GGrip))) (λ(l5_54:Int)=>bif (decide (l5_54<(s1.length:Int)))then((ix s1 l5_54).bind λy12=>(ix c.down l5_54).bind λy13=>(f123 y13 p y12 ((k+1:Nat):Int)).bind λr14=>bif (!r14)then(some (.inr (.inr (s1,l++m))))else(some (.inl (wr (l5_54+1)))))else(some (.inr (.inl ())))) FUEL 0=some o/\
       (match o with
        |.inl _=> ∀(i:Nat)g q,s1[i]? =some g->c.down[i]? =some q->agreeB q p g ((k+1:Nat):Int)=true
        |.inr x=>x=(s1,l++m)):=by
      refine loop_E (λn(s:Int)=>s=(n:Int)/\ ∀(i:Nat)g q,i<n->s1[i]? =some g->c.down[i]? =some q->agreeB q p g ((k+1:Nat):Int)=true) _ s1.length hsf ⟨rfl,λi g q h=>by omega⟩ ?_ ?_
      ·rintro n s hn ⟨rfl,hi⟩
       have g1:s1[n]? =some (s1[n]'hn):=List.getElem?_eq_getElem _
       have g2:c.down[n]? =some (c.down[n]'(by omega)):=List.getElem?_eq_getElem _
       simp only[dltLen g1,cond_true,ixNat g1,ixNat g2,Option.bind_some,wrLen hsf g1,f123_eq]
       cases ha:agreeB (c.down[n]'(by omega)) p (s1[n]'hn) ((k+1:Nat):Int)
       ·exact .inr ⟨_,rfl,rfl⟩
       ·refine .inl ⟨_,rfl,rfl,λi g q hin hg hq=>?_⟩
        by_cases hlt:i<n
        ·exact hi i g q hlt hg hq
        ·have:i=n:=by omega
         subst this
         rw[g1]at hg;rw[g2]at hq
         cases hg;cases hq
         exact ha
      ·rintro s ⟨rfl,hi⟩
       simp only[Int.lt_irrefl,decide_false,cond_false]
       exact⟨_,rfl,λi g q hg hq=>hi i g q (List.getElem?_eq_some_iff.1 hg).1 hg hq⟩
     obtain⟨o,k1,k2⟩:=key
     simp only[k1,Option.bind_some]
     cases o with
     |inr x=>
      simp only at k2
      subst k2
      exact .inl ⟨_,rfl,rfl,rfl,m,rfl,hm1,hm2⟩
     |inl _=>
      simp only at k2
      have m1:s1.length+1<=maxElems:=by unfold maxElems;omega
      have hpf:=hf.snoc p0 (f:=((k+1:Nat):Int)) (by omega) c0 hr k2
      obtain⟨r,r1,r2,m',r3,r4,r5⟩:=f120_ex h hh c pos hp1 hp2 hd ho fu (s1++[((k+1:Nat):Int)]) (l++m) hpf (by simp;omega) hm1 (λ_=>by omega)
      have n1:(0:Int)<=(s1.length:Int):=by omega
      have n2:((s1.length:Int)).toNat<=r.1.length:=by rw[r2];simp
      simp only[Sum.elim_inl,needP m1,r1,Option.bind_some,needP n1,needP n2]
      refine .inl ⟨_,rfl,?_,rfl,m++m',by rw[r3];simp,by simpa[List.append_assoc]using r4,λg hg=>?_⟩
      ·rw[r2];simp
      ·rcases List.mem_append.1 hg with hg|hg
       ·exact hm2 g hg
       ·exact r5 g hg
    ·simp only[c1,decide_false,cond_false]
     exact .inr ⟨_,rfl,rfl,m,rfl,hm1,hm2⟩
   ·rintro⟨s1,s2,s3⟩ ⟨e1,e2,m,e3,hm1,hm2⟩
    simp only at e1 e2 e3
    subst e1;subst e2;subst e3
    have c0: ¬(((h.low.length+1:Nat):Int)<=(h.low.length:Int)):=by omega
    simp only[c0,decide_false,cond_false,Option.bind_some]
    exact⟨_,rfl,rfl,m,rfl,hm1,hm2⟩
   ·rintro⟨s1,s2⟩ ⟨e1,m,e2,hm1,hm2⟩
    exact⟨_,rfl,e1,m,e2,hm1,hm2⟩
theorem pfit_nil(h:GHand)(c:GChord)(pos:Int):PFit h c pos []:=⟨by simp,λi f p h=>by simp at h,λi j f g p q _ h=>by simp at h⟩
theorem f60_ex(h:GHand)(hh:HandOk h)(c:GChord)(hd:c.down.length<=14)(ho:Small c.open_): ∃l,f60 h c=some l/\(l.length<=201/\ ∀g∈l,Fit h c g):=by
 have t2:=hh.t2
 have t1:=hh.t1
 unfold f60
 refine loopB (λk(s:List GGrip×List Int×Int)=>s.2.1=[]/\s.2.2=((k+1:Nat):Int)/\s.1.length<=201/\(c.down.length=0->s.1.length<=k)/\ ∀g∈s.1,Fit h c g) (λl=>l.length<=201/\ ∀g∈l,Fit h c g) h.top.toNat (by omega) ⟨rfl,rfl,by simp,λ_=>by simp,λg hg=>by simp at hg⟩ ?_ ?_ ?_
 ·rintro k ⟨s1,s2,s3⟩ hk ⟨e1,e2,h1,h2,h3⟩
  simp only at e1 e2 h1 h2 h3
  subst e1;subst e2
  have c0:((k+1:Nat):Int)<=h.top:=by omega
  have hb:=fuel_big
  by_cases hz:c.down.length=0
  ·have e0:c.down=[]:=List.eq_nil_of_length_eq_zero hz
   obtain⟨b,hb,hb1⟩:=f121_ex h c [] hh.n4 hh.ba (by simp[e0]) (by simp[Small,e0]) ho
   have hb1:=hb1 (by simp)
   subst hb1
   have m1:s1.length+1<=maxElems:=by unfold maxElems;omega
   have hF:FUEL=(FUEL-1)+1:=by omega
   have hz2:(([]:List Int).length:Int)=(c.down.length:Int):=by simp[e0]
   simp only[c0,decide_true,cond_true,f120]
   rw[hF]
   simp only[f120r,hz2,decide_true,cond_true,hb,Option.bind_some,f45_1_eq [] (by simp[Small]),needP m1]
   rw[wrNat (by omega)]
   refine .inl ⟨_,rfl,rfl,rfl,by simp;have:=h2 hz;omega,λ_=>by simp;exact h2 hz,λg hg=>?_⟩
   rcases List.mem_append.1 hg with hg|hg
   ·exact h3 g hg
   ·simp at hg;subst hg
    exact⟨by show(1:Int)<=((k+1:Nat):Int);omega,c0,by simp[e0],pfit_nil h c _,hb⟩
  ·obtain⟨r,r1,r2,m,r3,r4,r5⟩:=f120_ex h hh c ((k+1:Nat):Int) (by omega) c0 hd ho FUEL [] s1 (pfit_nil h c _) (by omega) h1 (λh=>by simp at h;omega)
   simp only[c0,decide_true,cond_true,f120,r1,Option.bind_some]
   rw[wrNat (by omega)]
   refine .inl ⟨_,rfl,r2,rfl,by rw[r3];exact r4,λh=>absurd h hz,λg hg=>?_⟩
   rw[r3]at hg
   rcases List.mem_append.1 hg with hg|hg
   ·exact h3 g hg
   ·exact(r5 g hg).2
 ·rintro⟨s1,s2,s3⟩ ⟨e1,e2,h1,h2,h3⟩
  simp only at e1 e2 h1 h2 h3
  subst e1;subst e2
  have c0: ¬(((h.top.toNat+1:Nat):Int)<=h.top):=by omega
  simp only[c0,decide_false,cond_false]
  exact⟨_,rfl,h1,h3⟩
 ·intro l hl
  exact⟨l,rfl,hl⟩
theorem f120_cong(h:GHand)(c c':GChord)(pos:Int)(hd:c.down=c'.down)(hs: ∀fs:List Int,fs.length=c.down.length->f121 h c fs=f121 h c' fs): ∀(fu:Nat)(fs:List Int)(l:List GGrip),f120r fu pos fs c h l=f120r fu pos fs c' h l
 |0,fs,l=>rfl
 |fu+1,fs,l=>by
  unfold f120r
  have ih:(λfs l=>f120r fu pos fs c h l)=λfs l=>f120r fu pos fs c' h l:=by
   funext fs l;exact f120_cong h c c' pos hd hs fu fs l
  have ih': ∀fs l,f120r fu pos fs c h l=f120r fu pos fs c' h l:=λfs l=>f120_cong h c c' pos hd hs fu fs l
  simp only[ih',<-hd]
  by_cases he:fs.length=c.down.length
  ·rw[hs fs he]
  ·have e:decide ((fs.length:Int)=(c.down.length:Int))=false:=by simp;omega
   simp only[e,cond_false]
theorem f60_cong(h:GHand)(c c':GChord)(hd:c.down=c'.down)(hs: ∀fs:List Int,fs.length=c.down.length->f121 h c fs=f121 h c' fs):f60 h c=f60 h c':=by
 unfold f60 f120
 simp only[f120_cong h c c' _ hd hs]
end Go.Proofs.YtpbahncblggodaaGreat
set_option linter.all false
namespace Go.Proofs.YtpbahncblggodaaGreat
open Go Go.Am
set_option maxRecDepth 100000
theorem eq_place(p q:GPlace):eq_GPlace p q=decide (p=q):=by
 unfold eq_GPlace
 cases p;cases q
 simp[Bool.decide_and]
theorem f277_ex(h:GHand)(hh:HandOk h)(c:GChord)(g:GGrip)(hd:Small c.down)(hf:Small g.fingers)(ho:Small c.open_): ∃b,f277 h c g=some b/\(b=true↔Fit h c g):=by
 have hd':c.down.length<=4194304:=hd
 have hf':g.fingers.length<=4194304:=hf
 unfold f277
 refine bindX (P1:=λj=>j=false↔(1<=g.pos/\g.pos<=h.top/\g.fingers.length=c.down.length)) ?_ ?_
 ·simp only[f85_in,Option.bind_some]
  cases h1:inR g.pos 1 h.top
  ·refine⟨true,rfl,?_⟩
   simp[inR]at h1 ⊢
   intro h2 h3;omega
  ·refine⟨_,rfl,?_⟩
   simp[inR]at h1 ⊢
   constructor
   ·intro h2;exact⟨h1.1,h1.2,by omega⟩
   ·intro h2;omega
 intro j hj
 cases j
 case true=>exact⟨false,rfl,by simp at hj;simp;exactλhF=>hj hF.p1 hF.p2 hF.len⟩
 obtain⟨p1,p2,hl⟩:=hj.1 rfl
 simp only[cond_false]
 refine loopB (λk(s:Int)=>s=(k:Int)/\PFit h c g.pos (g.fingers.take k)) (λo=>match o with
  |.inl _=>PFit h c g.pos g.fingers
  |.inr b=>b=false/\ ¬Fit h c g) g.fingers.length hf' ⟨rfl,by simpa using pfit_nil h c g.pos⟩ ?_ ?_ ?_
 ·rintro k s hk ⟨rfl,hp⟩
  have e1:g.fingers[k]? =some (g.fingers[k]'hk):=List.getElem?_eq_getElem _
  have e2:c.down[k]? =some (c.down[k]'(by omega)):=List.getElem?_eq_getElem _
  generalize g.fingers[k]'hk=f at e1
  generalize c.down[k]'(by omega)=p at e2
  have hlk:(g.fingers.take k).length=k:=by simp;omega
  simp only[dltLen e1,cond_true,ixNat e1,Option.bind_some,wrLen hf e1,f85_in]
  cases c1:inR f 1 (h.low.length:Int)
  ·simp only[Bool.not_false,cond_true,Option.bind_some]
   refine .inr ⟨_,rfl,rfl,λhF=>?_⟩
   have:=hF.fit.fit k f p e1 e2
   simp[inR]at c1
   omega
  simp only[inR,Bool.and_eq_true,decide_eq_true_eq]at c1
  simp only[Bool.not_true,cond_false,ixNat e2,Option.bind_some,f122_eq h hh g.pos f p.fret c1.1 c1.2]
  cases c2:reachB h g.pos f p.fret
  ·simp only[Bool.not_false,cond_true]
   exact .inr ⟨_,rfl,rfl,λhF=>by have:=(hF.fit.fit k f p e1 e2).2.2;rw[c2]at this;cases this⟩
  simp only[Bool.not_true,cond_false]
  have key: ∃o,loopN (σ:=Int) (τ:=(Unit⊕(Int⊕(Unit⊕Bool)))) (λ(l4_54:Int)=>bif (decide (l4_54<(k:Int)))then((ix c.down l4_54).bind λy12=>(ix g.fingers l4_54).bind λy14=>(f123 y12 p y14 f).bind λr15=>bif (!r15)then(some (.inr (.inr (.inr (.inr false)))))else(some (.inl (wr (l4_54+1)))))else(some (.inr (.inl ())))) FUEL 0=some o/\
    (match o with
     |.inl _=> ∀(i:Nat)g' q,(g.fingers.take k)[i]? =some g'->c.down[i]? =some q->agreeB q p g' f=true
     |.inr x=>x=.inr (.inr false)/\ ¬Fit h c g):=by
   refine loop_E (λn(s:Int)=>s=(n:Int)/\ ∀(i:Nat)g' q,i<n->(g.fingers.take k)[i]? =some g'->c.down[i]? =some q->agreeB q p g' f=true) _ k (by omega) ⟨rfl,λi g q h=>by omega⟩ ?_ ?_
   ·rintro n s hn ⟨rfl,hi⟩
    have g1:g.fingers[n]? =some (g.fingers[n]'(by omega)):=List.getElem?_eq_getElem _
    have g2:c.down[n]? =some (c.down[n]'(by omega)):=List.getElem?_eq_getElem _
    have c3:(n:Int)<(k:Int):=by omega
    simp only[c3,decide_true,cond_true,ixNat g1,ixNat g2,Option.bind_some,wrLen hf g1,f123_eq]
    cases ha:agreeB (c.down[n]'(by omega)) p (g.fingers[n]'(by omega)) f
    ·exact .inr ⟨_,rfl,rfl,λhF=>by have:=hF.fit.agr n k _ f _ p hn g1 e1 g2 e2;rw[ha]at this;cases this⟩
    ·refine .inl ⟨_,rfl,rfl,λi g' q hin hg hq=>?_⟩
     by_cases hlt:i<n
     ·exact hi i g' q hlt hg hq
     ·have:i=n:=by omega
      subst this
      rw[List.getElem?_take_of_lt hn,g1]at hg
      rw[g2]at hq
      cases hg;cases hq
      exact ha
   ·rintro s ⟨rfl,hi⟩
    simp only[Int.lt_irrefl,decide_false,cond_false]
    exact⟨_,rfl,λi g' q hg hq=>hi i g' q (by have:=(List.getElem?_eq_some_iff.1 hg).1;omega) hg hq⟩
  obtain⟨o,k1,k2⟩:=key
  simp only[k1,Option.bind_some]
  cases o with
  |inr x=>
   obtain⟨k2,k3⟩:=k2
   subst k2
   exact .inr ⟨_,rfl,rfl,k3⟩
  |inl _=>
   refine .inl ⟨_,rfl,rfl,?_⟩
   rw[take_snoc e1]
   exact hp.snoc (by rw[hlk];exact e2) c1.1 c1.2 c2 k2
 ·rintro s ⟨rfl,hp⟩
  simp only[Int.lt_irrefl,decide_false,cond_false]
  exact⟨_,rfl,by simpa using hp⟩
 intro o ho2
 cases o with
 |inr b=>obtain⟨rfl,h⟩:=ho2;exact⟨false,rfl,by simpa using h⟩
 |inl _=>
  obtain⟨b,hb,_⟩:=f121_ex h c g.fingers hh.n4 hh.ba hl hd ho
  simp only[Sum.elim_inl,f121_one,hb,Option.bind_some]
  refine⟨b,rfl,λe=>by subst e;exact⟨p1,p2,hl,ho2,hb⟩,λhF=>?_⟩
  have:=hF.sp
  rw[hb]at this
  exact Option.some.inj this
def Follows(a b:GChord):Prop:= ∀x∈b.held,∃(i j:Nat)(p:GPlace),idxF (onC x) a.down=(i:Int)/\idxF (onC x) b.down=(j:Int)/\a.down[i]? =some p/\b.down[j]? =some p
theorem f246_ex(a b:GChord)(ha:Small a.down)(hb:Small b.down)(hh:Small b.held)(hr: ∀x∈b.held,b.down.any (onC x)=true): ∃r,f246 a b=some r/\(r=true↔Follows a b):=by
 have hh':b.held.length<=4194304:=hh
 unfold f246
 refine loopB (λk(s:Int)=>s=(k:Int)/\ ∀x∈b.held.take k,∃(i j:Nat)(p:GPlace),idxF (onC x) a.down=(i:Int)/\idxF (onC x) b.down=(j:Int)/\a.down[i]? =some p/\b.down[j]? =some p) (λo=>match o with
  |.inl _=>Follows a b
  |.inr r=>r=false/\ ¬Follows a b) b.held.length hh' ⟨rfl,λx hx=>by simp at hx⟩ ?_ ?_ ?_
 ·rintro k s hk ⟨rfl,hi⟩
  have e1:b.held[k]? =some (b.held[k]'hk):=List.getElem?_eq_getElem _
  generalize b.held[k]'hk=x at e1
  have hm:=List.mem_of_getElem? e1
  simp only[dltLen e1,cond_true,ixNat e1,Option.bind_some,wrLen hh e1,f119_eq a x ha,f119_eq b x hb,idx_any]
  obtain⟨j,q,j1,j2,j3⟩:=idx_get (hr x hm)
  cases c1:a.down.any (onC x)
  ·simp only[Bool.not_false,cond_true,Option.bind_some]
   refine .inr ⟨_,rfl,rfl,λhF=>?_⟩
   obtain⟨i,j',p,h1,_⟩:=hF x hm
   have:=idxF_nonneg (p:=onC x) (l:=a.down)
   rw[c1,h1]at this
   simp at this
  ·obtain⟨i,p,i1,i2,i3⟩:=idx_get c1
   simp only[Bool.not_true,cond_false,i1,j1,ixNat i2,ixNat j2,Option.bind_some,eq_place]
   by_cases hpq:p=q
   ·subst hpq
    simp only[decide_true,Bool.not_true,cond_false]
    refine .inl ⟨_,rfl,rfl,λy hy=>?_⟩
    rw[take_snoc e1,List.mem_append]at hy
    rcases hy with hy|hy
    ·exact hi y hy
    ·simp at hy;subst hy
     exact⟨i,j,p,i1,j1,i2,j2⟩
   ·simp only[hpq,decide_false,Bool.not_false,cond_true]
    refine .inr ⟨_,rfl,rfl,λhF=>?_⟩
    obtain⟨i',j',p',h1,h2,h3,h4⟩:=hF x hm
    rw[i1]at h1;rw[j1]at h2
    have e1:i=i':=by omega
    have e2:j=j':=by omega
    subst e1;subst e2
    rw[i2]at h3;rw[j2]at h4
    cases h3;cases h4
    exact hpq rfl
 ·rintro s ⟨rfl,hi⟩
  simp only[Int.lt_irrefl,decide_false,cond_false]
  exact⟨_,rfl,λx hx=>hi x (by simpa using hx)⟩
 intro o ho
 cases o with
 |inr r=>obtain⟨rfl,h⟩:=ho;exact⟨false,rfl,by simpa using h⟩
 |inl _=>exact⟨true,rfl,by simpa using ho⟩
structure SmallC (c:GChord):Prop where
 d:Small c.down
 h:Small c.held
 o:Small c.open_
theorem f196_ex(a b:GChord)(ha:SmallC a)(hb:SmallC b): ∃r,f196 [a,b]=some r/\(r=0↔RightC a/\RightC b/\Follows a b):=by
 unfold f196
 have c0: ¬(400<(([a,b]:List GChord).length:Int)):=by simp
 simp only[c0,decide_false,cond_false]
 refine loopB (λk(s:Int)=>s=(k:Int)/\(0<k->RightC a)/\(1<k->RightC b/\Follows a b)) (λo=>match o with
  |.inl _=>RightC a/\RightC b/\Follows a b
  |.inr r=>r=1/\ ¬(RightC a/\RightC b/\Follows a b)) 2 (by omega) ⟨rfl,λh=>by omega,λh=>by omega⟩ ?_ ?_ ?_
 ·rintro k s hk ⟨rfl,h1,h2⟩
  obtain⟨ra,ea,pa⟩:=f59_ex a ha.d ha.h ha.o
  obtain⟨rb,eb,pb⟩:=f59_ex b hb.d hb.h hb.o
  have hk':k=0\/k=1:=by omega
  rcases hk' with rfl|rfl
  ·have g0:ix ([a,b]:List GChord) ((0:Nat):Int)=some a:=rfl
   have c1:(((0:Nat):Int)<(([a,b]:List GChord).length:Int)):=by simp
   have c2: ¬((0:Int)<((0:Nat):Int)):=by simp
   simp only[c1,decide_true,cond_true,g0,Option.bind_some,ea,c2,decide_false,cond_false]
   rw[wrNat (by omega)]
   cases ra
   ·exact .inr ⟨_,rfl,rfl,λh=>by have:=pa.2 h.1;cases this⟩
   ·exact .inl ⟨_,rfl,rfl,λ_=>pa.1 rfl,λh=>by omega⟩
  ·have g0:ix ([a,b]:List GChord) ((1:Nat):Int)=some b:=rfl
   have g1:ix ([a,b]:List GChord) (wr (((1:Nat):Int)-1))=some a:=rfl
   have c1:(((1:Nat):Int)<(([a,b]:List GChord).length:Int)):=by simp
   have c2:((0:Int)<((1:Nat):Int)):=by simp
   simp only[c1,decide_true,cond_true,g0,g1,Option.bind_some,eb,c2]
   rw[wrNat (by omega)]
   cases rb
   ·exact .inr ⟨_,rfl,rfl,λh=>by have:=pb.2 h.2.1;cases this⟩
   ·have hrb:=pb.1 rfl
    obtain⟨rf,ef,pf⟩:=f246_ex a b ha.d hb.d hb.h hrb.hd
    simp only[Bool.not_true,cond_false,ef,Option.bind_some]
    cases rf
    ·exact .inr ⟨_,rfl,rfl,λh=>by have:=pf.2 h.2.2;cases this⟩
    ·exact .inl ⟨_,rfl,rfl,λ_=>h1 (by omega),λ_=>⟨hrb,pf.1 rfl⟩⟩
 ·rintro s ⟨rfl,h1,h2⟩
  have c1: ¬(((2:Nat):Int)<(([a,b]:List GChord).length:Int)):=by simp
  simp only[c1,decide_false,cond_false]
  exact⟨_,rfl,h1 (by omega),h2 (by omega)⟩
 intro o ho
 cases o with
 |inr r=>obtain⟨rfl,h⟩:=ho;exact⟨1,rfl,by simpa using h⟩
 |inl _=>exact⟨0,rfl,by simpa using ho⟩
theorem f197_ex(c:GChord)(g:GGrip)(f:Int)(hl:g.fingers.length=c.down.length)(hs:Small c.down): ∃l,f197 c g f=some l/\Small l:=by
 have hs':c.down.length<=4194304:=hs
 unfold f197
 refine loopB (λk(s:List GPlace×Int)=>s.2=(k:Int)/\s.1.length<=k) (λl=>Small l) g.fingers.length (by omega) ⟨rfl,by simp⟩ ?_ ?_ ?_
 ·rintro k ⟨s1,s2⟩ hk ⟨e,h1⟩
  simp only at e h1
  subst e
  have e1:g.fingers[k]? =some (g.fingers[k]'hk):=List.getElem?_eq_getElem _
  have e2:c.down[k]? =some (c.down[k]'(by omega)):=List.getElem?_eq_getElem _
  have m1:s1.length+1<=maxElems:=by unfold maxElems;omega
  simp only[dltLen e1,cond_true,ixNat e1,ixNat e2,Option.bind_some,wrLen (l:=g.fingers) (by simp only[Small];omega) e1,needP m1]
  cases decide (g.fingers[k]'hk=f)
  ·exact .inl ⟨_,rfl,rfl,by show s1.length<=k+1;omega⟩
  ·exact .inl ⟨_,rfl,rfl,by simp;omega⟩
 ·rintro⟨s1,s2⟩ ⟨e,h1⟩
  simp only at e h1
  subst e
  simp only[Int.lt_irrefl,decide_false,cond_false]
  exact⟨_,rfl,by simp only[Small];omega⟩
 ·intro l hl
  exact⟨l,rfl,hl⟩
theorem f190_2_ex(l m:List GPlace)(hl:Small l)(hm:Small m): ∃b,f190_2 l m=some b/\True:=by
 have h1: ∀y,f315 y m=some (m.any λz=>eq_GPlace y z):=by
  intro y
  unfold f315 f316 f327
  rw[loop_find m (λz=>eq_GPlace y z) (λi _=>(i:Int)) hm]
  ·simp only[Option.bind_some,findS_idx]
   rw[<-idxF_nonneg]
   unfold idxF
   cases m.findIdx? _<;>simp
  ·intro i z hz
   simp only[dltLen hz,cond_true,ixNat hz,Option.bind_some]
   cases eq_GPlace y z<;>rfl
  ·simp
 unfold f190_2 f185_3
 rw[loop_find l (λy=>m.any λz=>eq_GPlace y z) (λi _=>(i:Int)) hl]
 ·simp only[Option.bind_some,findS_idx]
  cases l.findIdx? _<;>exact⟨_,rfl,trivial⟩
 ·intro i y hy
  simp only[dltLen hy,cond_true,ixNat hy,Option.bind_some,h1]
  cases m.any λz=>eq_GPlace y z<;>rfl
 ·simp
structure StepOk (h:GHand) (a:GChord) (g:GGrip) (b:GChord) (k:GGrip):Prop where
 hold: ∀x∈b.held,∀i j:Nat,idxF (onC x) a.down=(i:Int)->idxF (onC x) b.down=(j:Int)->g.fingers[i]? =k.fingers[j]?
 move: ¬(0<a.down.length/\0<b.down.length/\h.jump<maxI (wr (g.pos-k.pos)) (wr (k.pos-g.pos)))
theorem f278_ex(h:GHand)(hh:HandOk h)(a:GChord)(g:GGrip)(b:GChord)(k:GGrip)(ha:SmallC a)(hb:SmallC b)(fa:Fit h a g)(fb:Fit h b k)(hf:Follows a b): ∃r,f278 h a g b k=some r/\(r.2=true↔StepOk h a g b k):=by
 have hbh:b.held.length<=4194304:=hb.h
 have hn4:=hh.n4
 unfold f278
 refine loopB (λn(s:Int)=>s=(n:Int)/\ ∀x∈b.held.take n,∀i j:Nat,idxF (onC x) a.down=(i:Int)->idxF (onC x) b.down=(j:Int)->g.fingers[i]? =k.fingers[j]?) (λo=>match o with
  |.inl _=> ∀x∈b.held,∀i j:Nat,idxF (onC x) a.down=(i:Int)->idxF (onC x) b.down=(j:Int)->g.fingers[i]? =k.fingers[j]?
  |.inr r=>r.2=false/\ ¬StepOk h a g b k) b.held.length hbh ⟨rfl,λx hx=>by simp at hx⟩ ?_ ?_ ?_
 ·rintro n s hn ⟨rfl,hi⟩
  have e1:b.held[n]? =some (b.held[n]'hn):=List.getElem?_eq_getElem _
  generalize b.held[n]'hn=x at e1
  have hm:=List.mem_of_getElem? e1
  obtain⟨i,j,p,i1,j1,i2,j2⟩:=hf x hm
  have hil:=(List.getElem?_eq_some_iff.1 i2).1
  have hjl:=(List.getElem?_eq_some_iff.1 j2).1
  have g1:g.fingers[i]? =some (g.fingers[i]'(by rw[fa.len];exact hil)):=List.getElem?_eq_getElem _
  have g2:k.fingers[j]? =some (k.fingers[j]'(by rw[fb.len];exact hjl)):=List.getElem?_eq_getElem _
  generalize g.fingers[i]'(by rw[fa.len];exact hil)=y1 at g1
  generalize k.fingers[j]'(by rw[fb.len];exact hjl)=y2 at g2
  simp only[dltLen e1,cond_true,ixNat e1,Option.bind_some,wrLen hb.h e1,f119_eq a x ha.d,f119_eq b x hb.d,i1,j1,ixNat g1,ixNat g2]
  by_cases hy:y1=y2
  ·subst hy
   simp only[ne_eq,not_true_eq_false,decide_false,cond_false]
   refine .inl ⟨_,rfl,rfl,λy hy i' j' h1 h2=>?_⟩
   rw[take_snoc e1,List.mem_append]at hy
   rcases hy with hy|hy
   ·exact hi y hy i' j' h1 h2
   ·simp at hy;subst hy
    have ei:i'=i:=by omega
    have ej:j'=j:=by omega
    subst ei;subst ej
    rw[g1,g2]
  ·simp only[ne_eq,hy,not_false_eq_true,decide_true,cond_true]
   refine .inr ⟨_,rfl,rfl,λhS=>?_⟩
   have:=hS.hold x hm i j i1 j1
   rw[g1,g2]at this
   exact hy (Option.some.inj this)
 ·rintro s ⟨rfl,hi⟩
  simp only[Int.lt_irrefl,decide_false,cond_false]
  exact⟨_,rfl,λx hx=>hi x (by simpa using hx)⟩
 intro o ho
 cases o with
 |inr r=>obtain⟨h1,h2⟩:=ho;exact⟨r,rfl,by rw[h1];simpa using h2⟩
 |inl _=>
 simp only at ho
 simp only[Sum.elim_inl,f198,Option.bind_some]
 generalize hmv:maxI (wr (g.pos-k.pos)) (wr (k.pos-g.pos))=mv
 refine bindX (P1:=λj=>j=true↔(0<a.down.length/\0<b.down.length)) ?_ ?_
 ·by_cases c1:0<(a.down.length:Int)
  ·by_cases c2:0<(b.down.length:Int)
   ·simp only[c1,c2,decide_true,cond_true]
    exact⟨_,rfl,by simp;omega⟩
   ·simp only[c1,c2,decide_true,decide_false,cond_true]
    exact⟨_,rfl,⟨λh=>(by cases h),λh=>(by omega)⟩⟩
  ·simp only[c1,decide_false,cond_false]
   exact⟨_,rfl,⟨λh=>(by cases h),λh=>(by omega)⟩⟩
 intro j2 hj2
 refine bindX (P1:=λj=>j=true↔(0<a.down.length/\0<b.down.length/\h.jump<mv)) ?_ ?_
 ·cases j2
  ·exact⟨false,rfl,⟨λh=>(by cases h),λh=>absurd (hj2.2 ⟨h.1,h.2.1⟩) (by simp)⟩⟩
  ·have:=hj2.1 rfl
   refine⟨decide (h.jump<mv),rfl,?_⟩
   simp[this]
 intro j3 hj3
 cases j3
 case true=>
  refine⟨_,rfl,?_⟩
  simp
  intro hS
  exact hS.move (by rw[hmv];exact hj3.1 rfl)
 simp only[cond_false]
 have hS:StepOk h a g b k:=⟨ho,λhm=>by rw[hmv]at hm;have:=hj3.2 hm;cases this⟩
 refine bindX (P1:=λ_=>True) ?_ ?_
 ·refine bindX (P1:=λ_=>True) ?_ λb _=>?_
  ·cases j2
   ·exact⟨_,rfl,trivial⟩
   ·exact⟨_,rfl,trivial⟩
  ·cases b<;>exact⟨_,rfl,trivial⟩
 intro cost _
 refine loopB (λn(s:Int×Int)=>s.2=((n+1:Nat):Int)) (λ_=>True) h.low.length (by omega) rfl ?_ ?_ ?_
 ·rintro n ⟨s1,s2⟩ hn e
  simp only at e
  subst e
  have c0:((n+1:Nat):Int)<=(h.low.length:Int):=by omega
  simp only[c0,decide_true,cond_true,Option.bind_some]
  cases j2
  ·exact .inr ⟨_,rfl,trivial⟩
  obtain⟨l1,e1,p1⟩:=f197_ex a g ((n+1:Nat):Int) fa.len ha.d
  obtain⟨l2,e2,p2⟩:=f197_ex b k ((n+1:Nat):Int) fb.len hb.d
  obtain⟨bb,e3,_⟩:=f190_2_ex l1 l2 p1 p2
  simp only[e1,e2,e3,Option.bind_some,cond_true]
  rw[wrNat (by omega)]
  cases decide (0<(l1.length:Int))
  ·exact .inl ⟨_,rfl,rfl⟩
  cases decide (0<(l2.length:Int))
  ·exact .inl ⟨_,rfl,rfl⟩
  cases bb<;>exact .inl ⟨_,rfl,rfl⟩
 ·rintro⟨s1,s2⟩ e
  simp only at e
  subst e
  have c0: ¬(((h.low.length+1:Nat):Int)<=(h.low.length:Int)):=by omega
  simp only[c0,decide_false,cond_false,Option.bind_some]
  exact⟨_,rfl,trivial⟩
 ·intro r _
  exact⟨_,rfl,by simpa using hS⟩
structure Steps (h:GHand) (a:GChord) (g:GGrip) (b:GChord) (k:GGrip):Prop where
 ra:RightC a
 rb:RightC b
 fo:Follows a b
 fa:Fit h a g
 fb:Fit h b k
 st:StepOk h a g b k
theorem f228_ex(h:GHand)(hh:HandOk h)(h0:f39 h=some 0)(a:GChord)(g:GGrip)(b:GChord)(k:GGrip)(ha:SmallC a)(hb:SmallC b)(sg:Small g.fingers)(sk:Small k.fingers): ∃r,f228 h a g b k=some r/\(r.2=0↔Steps h a g b k):=by
 unfold f228
 rw[h0]
 simp only[Option.bind_some,ne_eq,not_true_eq_false,decide_false,cond_false]
 refine bindX (f196_ex a b ha hb) λr hr=>?_
 by_cases c1:r=0
 ·subst c1
  obtain⟨r1,r2,r3⟩:=hr.1 rfl
  simp only[not_true_eq_false,decide_false,cond_false]
  refine bindX (P1:=λj=>j=false↔(Fit h a g/\Fit h b k)) ?_ ?_
  ·refine bindX (f277_ex h hh a g ha.d sg ha.o) λb1 h1=>?_
   cases b1
   ·exact⟨true,rfl,by simp at h1 ⊢;exactλh=>absurd h h1⟩
   ·refine bindX (f277_ex h hh b k hb.d sk hb.o) λb2 h2=>⟨!b2,rfl,?_⟩
    have:=h1.1 rfl
    cases b2<;>simp_all
  intro j hj
  cases j
  ·obtain⟨f1,f2⟩:=hj.1 rfl
   simp only[cond_false]
   refine bindX (f278_ex h hh a g b k ha hb f1 f2 r3) λr hr=>?_
   obtain⟨n,ok⟩:=r
   cases ok
   ·refine⟨_,rfl,?_⟩
    simp at hr ⊢
    exactλh=>hr h.st
   ·exact⟨_,rfl,by simp;exact⟨r1,r2,r3,f1,f2,hr.1 rfl⟩⟩
  ·refine⟨_,rfl,?_⟩
   simp at hj ⊢
   exactλh=>hj h.fa h.fb
 ·simp only[c1,not_false_eq_true,decide_true,cond_true]
  exact⟨_,rfl,λh=>absurd h c1,λh=>absurd (hr.2 ⟨h.ra,h.rb,h.fo⟩) c1⟩
end Go.Proofs.YtpbahncblggodaaGreat
