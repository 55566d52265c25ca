/-
  Plain laws, joined by gen/joinH.py.
  Own work. No Go text.
-/
import Derived.Test.YtpbahncblggodaaGreatJA
set_option linter.all false
namespace Go.Proofs.YtpbahncblggodaaGreat
open Go Go.Am
set_option maxRecDepth 100000
theorem RightC.len{c:GChord}(h:RightC c):c.down.length<=14:=by
 have key: ∀(i:Nat)p,c.down[i]? =some p->(i:Int)+1<=p.course:=by
  intro i
  induction i with
  |zero=>intro p hp;have:=h.dc p (List.mem_of_getElem? hp);omega
  |succ i ih=>
   intro p hp
   have hi:=(List.getElem?_eq_some_iff.1 hp).1
   have e1:c.down[i]? =some (c.down[i]'(by omega)):=List.getElem?_eq_getElem _
   have:=ih _ e1
   have:=h.da i _ p e1 hp
   omega
 rcases Nat.lt_or_ge 14 c.down.length with hl|hl
 ·have e1:c.down[14]? =some (c.down[14]'hl):=List.getElem?_eq_getElem _
  have h1:=key 14 _ e1
  have h2:=h.dc _ (List.mem_of_getElem? e1)
  omega
 ·exact hl
theorem f16_ex(h:GHand)(hh:HandOk h)(h0:f39 h=some 0)(c:GChord)(hc:SmallC c): ∃r,f16 h c=some r/\(r.2=0->RightC c/\f60 h c=some r.1/\r.1.length<=200/\ ∀g∈r.1,Fit h c g)/\
  (RightC c-> ∀l,f60 h c=some l->l.length<=200->r=(l,0)):=by
 unfold f16
 rw[h0]
 simp only[Option.bind_some,ne_eq,not_true_eq_false,decide_false,cond_false]
 obtain⟨b,e1,e2⟩:=f59_ex c hc.d hc.h hc.o
 simp only[e1,Option.bind_some]
 cases b
 ·exact⟨_,rfl,λh=>by simp at h,λh=>by have:=e2.2 h;cases this⟩
 have hr:=e2.1 rfl
 obtain⟨l,e3,e4,e5⟩:=f60_ex h hh c hr.len hc.o
 simp only[Bool.not_true,cond_false,e3,Option.bind_some]
 by_cases c1:200<(l.length:Int)
 ·simp only[c1,decide_true,cond_true]
  exact⟨_,rfl,λh=>by simp at h,λ_ l' h1 h2=>by cases h1;omega⟩
 ·simp only[c1,decide_false,cond_false]
  exact⟨_,rfl,λ_=>⟨hr,rfl,by show l.length<=200;omega,e5⟩,λ_ l' h1 h2=>by cases h1;rfl⟩
theorem f226_ex(d:GNDesk)(hh:HandOk d.h)(h0:f39 d.h=some 0)(x:GChord)(k:GGrip)(hc:SmallC d.chord)(hx:SmallC x)(hk:Small k.fingers)(l:List GGrip)(hl:Small l)(hf: ∀g∈l,Small g.fingers):
  ∃b,f226 l d x k=some b/\(b=true↔ ∃g∈l,Steps d.h d.chord g x k):=by
 have hl':l.length<=4194304:=hl
 unfold f226 f276
 have key: ∃o,loopN (σ:=Int) (τ:=(Unit⊕Int)) (λ(l1_8:Int)=>bif (decide (l1_8<(l.length:Int)))then((ix l l1_8).bind λy2=>(f227 y2 d x k).bind λr3=>bif r3 then(some (.inr (.inr l1_8)))else(some (.inl (wr (l1_8+1)))))else(some (.inr (.inl ())))) FUEL 0=some o/\
   (match o with
    |.inl _=> ¬ ∃g∈l,Steps d.h d.chord g x k
    |.inr z=>0<=z/\ ∃g∈l,Steps d.h d.chord g x k):=by
  refine loop_E (λn(s:Int)=>s=(n:Int)/\ ¬ ∃g∈l.take n,Steps d.h d.chord g x k) _ l.length hl' ⟨rfl,by simp⟩ ?_ ?_
  ·rintro n s hn ⟨rfl,hi⟩
   have e1:l[n]? =some (l[n]'hn):=List.getElem?_eq_getElem _
   generalize l[n]'hn=g at e1
   have hm:=List.mem_of_getElem? e1
   obtain⟨r,e2,e3⟩:=f228_ex d.h hh h0 d.chord g x k hc hx (hf g hm) hk
   simp only[dltLen e1,cond_true,ixNat e1,Option.bind_some,wrLen hl e1,f227,e2]
   by_cases c1:r.2=0
   ·simp only[c1,decide_true,cond_true]
    exact .inr ⟨_,rfl,by omega,g,hm,e3.1 c1⟩
   ·simp only[c1,decide_false,cond_false]
    refine .inl ⟨_,rfl,rfl,?_⟩
    rintro⟨g',hg',hs⟩
    rw[take_snoc e1,List.mem_append]at hg'
    rcases hg' with hg'|hg'
    ·exact hi ⟨g',hg',hs⟩
    ·simp at hg';subst hg'
     exact c1 (e3.2 hs)
  ·rintro s ⟨rfl,hi⟩
   simp only[Int.lt_irrefl,decide_false,cond_false]
   exact⟨_,rfl,by simpa using hi⟩
 obtain⟨o,k1,k2⟩:=key
 simp only[k1,Option.bind_some]
 cases o with
 |inl _=>exact⟨false,by simp,by simpa using k2⟩
 |inr z=>exact⟨true,by simp[k2.1],by simpa using k2.2⟩
structure DeskH (d:GNDesk):Prop where
 hh:HandOk d.h
 h0:f39 d.h=some 0
 ch:SmallC d.chord
 po:d.possible.length<=200
 pf: ∀g∈d.possible,Small g.fingers
theorem f161_ex(d:GNDesk)(hd:DeskH d)(x:GChord)(hx:SmallC x): ∃l,f161 d x=some l/\(l.length<=200/\(∀k∈l,Fit d.h x k)/\(l≠[]->RightC x/\ ∃L,f60 d.h x=some L/\L.length<=200/\ ∀k∈l,k∈L)/\
  (d.piece.events.length≠0-> ∀k∈l,∃g∈d.possible,Steps d.h d.chord g x k)/\
  (RightC x-> ∀L,f60 d.h x=some L->L.length<=200-> ∀k∈L,(d.piece.events.length=0\/ ∃g∈d.possible,Steps d.h d.chord g x k)->k∈l)):=by
 unfold f161
 refine bindX (f16_ex d.h hd.hh hd.h0 x hx) ?_
 rintro⟨l,e⟩ ⟨h1,h2⟩
 simp only at h1 h2
 by_cases c1:e=0
 ·subst c1
  obtain⟨r1,r2,r3,r4⟩:=h1 rfl
  have hrl:=r1.len
  have r3:l.length<=200:=r3
  simp only[ne_eq,not_true_eq_false,decide_false,cond_false]
  by_cases c2:d.piece.events.length=0
  ·have e:decide ((d.piece.events.length:Int)=0)=true:=by simp[c2]
   simp only[e,cond_true]
   refine⟨l,rfl,r3,r4,λ_=>⟨r1,l,r2,r3,λ_ h=>h⟩,λh=>absurd c2 h,λ_ L hL _ k hk _=>?_⟩
   rw[r2]at hL;cases hL;exact hk
  ·have e:decide ((d.piece.events.length:Int)=0)=false:=decide_eq_false (by omega)
   simp only[e,cond_false]
   refine loopB (λn(s:List GGrip×Int)=>s.2=(n:Int)/\s.1.length<=n/\(∀k∈s.1,k∈l)/\(∀k∈s.1,∃g∈d.possible,Steps d.h d.chord g x k)/\ ∀k∈l.take n,(∃g∈d.possible,Steps d.h d.chord g x k)->k∈s.1)
    (λm=>m.length<=l.length/\(∀k∈m,k∈l)/\(∀k∈m,∃g∈d.possible,Steps d.h d.chord g x k)/\ ∀k∈l,(∃g∈d.possible,Steps d.h d.chord g x k)->k∈m) l.length (by omega) ⟨rfl,by simp,by simp,by simp,by simp⟩ ?_ ?_ ?_
   ·rintro n ⟨s1,s2⟩ hn ⟨e0,m1,m2,m3,m4⟩
    simp only at e0 m1 m2 m3 m4
    subst e0
    have e1:l[n]? =some (l[n]'hn):=List.getElem?_eq_getElem _
    generalize l[n]'hn=k at e1
    have hm:=List.mem_of_getElem? e1
    have hk:Small k.fingers:=by have:=(r4 k hm).len;simp only[Small];omega
    obtain⟨b,b1,b2⟩:=f226_ex d hd.hh hd.h0 x k hd.ch hx hk d.possible (by have:=hd.po;simp only[Small];omega) hd.pf
    have n1:s1.length+1<=maxElems:=by unfold maxElems;omega
    simp only[dltLen e1,cond_true,ixNat e1,Option.bind_some,wrLen (l:=l) (by simp only[Small];omega) e1,b1,needP n1]
    cases b
    ·refine .inl ⟨_,rfl,rfl,by show s1.length<=n+1;omega,m2,m3,λk' hk' hs=>?_⟩
     rw[take_snoc e1,List.mem_append]at hk'
     rcases hk' with hk'|hk'
     ·exact m4 k' hk' hs
     ·simp at hk';subst hk'
      have:=b2.2 hs;cases this
    ·refine .inl ⟨_,rfl,rfl,by simp;omega,λk' hk'=>?_,λk' hk'=>?_,λk' hk' hs=>?_⟩
     ·rcases List.mem_append.1 hk' with hk'|hk'
      ·exact m2 k' hk'
      ·simp at hk';subst hk';exact hm
     ·rcases List.mem_append.1 hk' with hk'|hk'
      ·exact m3 k' hk'
      ·simp at hk';subst hk';exact b2.1 rfl
     ·rw[take_snoc e1,List.mem_append]at hk'
      rcases hk' with hk'|hk'
      ·exact List.mem_append_left _ (m4 k' hk' hs)
      ·exact List.mem_append_right _ hk'
   ·rintro⟨s1,s2⟩ ⟨e0,m1,m2,m3,m4⟩
    simp only at e0 m1 m2 m3 m4
    subst e0
    simp only[Int.lt_irrefl,decide_false,cond_false]
    exact⟨_,rfl,m1,m2,m3,λk hk=>m4 k (by simpa using hk)⟩
   ·rintro m ⟨m1,m2,m3,m4⟩
    refine⟨m,rfl,by omega,λk hk=>r4 k (m2 k hk),λ_=>⟨r1,l,r2,r3,m2⟩,λ_=>m3,λ_ L hL _ k hk hs=>?_⟩
    rw[r2]at hL;cases hL
    rcases hs with hs|hs
    ·exact absurd hs c2
    ·exact m4 k hk hs
 ·simp only[ne_eq,c1,not_false_eq_true,decide_true,cond_true]
  refine⟨[],rfl,by simp,by simp,λh=>absurd rfl h,by simp,λhr L hL hlen=>?_⟩
  have:=h2 hr L hL hlen
  simp at this
  exact absurd this.2 c1
theorem f162_eq(l:List GPlace)(hs:Small l):f162 l=some (l.map GPlace.course):=by
 have hs':l.length<=4194304:=hs
 unfold f162
 have n1:(0:Int)<=(l.length:Int):=by omega
 have n2:(l.length:Int)<=(maxElems:Int):=by unfold maxElems;omega
 simp only[needP n1,needP n2]
 rw[loop_all (λk=>((l.take k).map GPlace.course,(k:Int))) l.length (by omega) (by simp) (r:=l.map GPlace.course)]
 ·rfl
 ·intro k hk
  have e1:l[k]? =some (l[k]'hk):=List.getElem?_eq_getElem _
  generalize l[k]'hk=p at e1
  have m1:((l.take k).map GPlace.course).length+1<=maxElems:=by simp;unfold maxElems;omega
  simp only[dltLen e1,cond_true,ixNat e1,Option.bind_some,wrLen hs e1,f163,needP m1,take_snoc e1,List.map_append]
  rfl
 ·simp
def heldC(d:GNDesk)(tie:Bool):GChord:=if tie then⟨d.chord.down,d.chord.down.map GPlace.course,d.chord.open_⟩else⟨[],[],[]⟩
theorem heldC_small(d:GNDesk)(hd:SmallC d.chord)(tie:Bool):SmallC (heldC d tie):=by
 unfold heldC
 cases tie
 ·exact⟨by simp[Small],by simp[Small],by simp[Small]⟩
 ·have:=hd.d
  exact⟨hd.d,by simpa[Small]using this,hd.o⟩
theorem f99_ex(d:GNDesk)(hd:DeskH d)(s:GSign)(tie:Bool)(he:d.piece.events.length<famCap): ∃g,f161 d (heldC d tie)=some g/\f99 d s tie=some ((heldC d tie).down,(heldC d tie).held,(heldC d tie).open_,d.piece.events++[⟨false,s,tie,[]⟩],g):=by
 obtain⟨g,h1,_⟩:=f161_ex d hd (heldC d tie) (heldC_small d hd.ch tie)
 refine⟨g,h1,?_⟩
 unfold f99
 cases tie
 ·simp only[cond_false,Option.bind_some]
  unfold heldC at h1 ⊢
  simp only[Bool.false_eq_true,if_false]at h1 ⊢
  simp only[h1,Option.bind_some,needP he]
 ·simp only[cond_true,Option.bind_some,f162_eq _ hd.ch.d]
  unfold heldC at h1 ⊢
  simp only[if_true]at h1 ⊢
  simp only[h1,Option.bind_some,needP he]
end Go.Proofs.YtpbahncblggodaaGreat
set_option linter.all false
namespace Go.Proofs.YtpbahncblggodaaGreat
open Go Go.Am
set_option maxRecDepth 100000
def comps:Nat->Nat->List (List Bool)
 |0,0=>[[]]
 |0,_+1=>[]
 |k+1,0=>(comps k 0).map (false:: ·)
 |k+1,m+1=>(comps k (m+1)).map (false:: ·)++(comps k m).map (true:: ·)
theorem comps_none: ∀(k m:Nat),k<m->comps k m=[]
 |0,m+1,_=>rfl
 |k+1,m+1,h=>by simp only[comps,comps_none k (m+1) (by omega),comps_none k m (by omega)];rfl
def flagsM(n:Nat):List (List Bool):=(List.range (n+1)).flatMap (comps n)
def srch{R:Type}(B:List Bool->Option (Unit⊕(R⊕Unit))):List (List Bool)->Option (Unit⊕(R⊕Unit))
 | []=>some (.inr (.inr ()))
 |l::r=>match B l with
  |none=>none
  |some (.inr (.inr _))=>srch B r
  |some x=>some x
theorem srch_append{R:Type}(B:List Bool->Option (Unit⊕(R⊕Unit))): ∀(a b:List (List Bool)),srch B (a++b)=match srch B a with
  |some (.inr (.inr _))=>srch B b
  |x=>x
 | [],b=>rfl
 |l::r,b=>by
  simp only[List.cons_append,srch]
  cases B l with
  |none=>rfl
  |some o=>
   rcases o with _|_|_
   ·rfl
   ·rfl
   ·exact srch_append B r b
theorem loop_out{σ τ:Type}{body:σ->Option (σ⊕τ)}{s:σ}{r:τ}(h:body s=some (.inr r))(n:Nat)(hn:0<n):loopN body n s=some r:=by
 cases n with
 |zero=>omega
 |succ n=>simp only[loopN,h]
theorem loop_on{σ τ:Type}{body:σ->Option (σ⊕τ)}{s s':σ}(h:body s=some (.inl s'))(n:Nat):loopN body (n+1) s=loopN body n s':=by simp only[loopN,h]
theorem set_take{α:Type}{l:List α}{i:Nat}{x:α}(h:i<l.length):(l.set i x).take (i+1)=l.take i++[x]:=by
 have:(l.set i x)[i]? =some x:=by rw[List.getElem?_set];simp[h]
 rw[take_snoc this,List.take_set_of_le (Nat.le_refl i)]
section
variable (e1:List GNNote) (e2:GNDesk) (e3 e5:List GNNote) (e6:GNChoice) (e7:GChord) (e8:List GGrip) (e9:Bool)
def outF{R:Type}(o:Unit⊕((List GGrip×GChord×GNChoice)⊕Unit))(l:List Bool):(List Bool)⊕((List Bool)⊕(GNChoice×GChord×List GGrip×List Bool)):=match o with
 |.inl _=>.inr (.inl l)
 |.inr (.inl r)=>.inr (.inr (r.2.2,r.2.1,r.1,l))
 |.inr (.inr _)=>.inl l
theorem f266r_eq(n:Nat)(hn:n<=4194304): ∀(rem fu i m:Nat)(l:List Bool)(o:Unit⊕((List GGrip×GChord×GNChoice)⊕Unit)),l.length=n->i+rem=n->rem<fu->m<=rem->
  srch (f348 e1 e2 e3 e5 e6 e7 e8 e9 (n:Int)) ((comps rem m).map (l.take i++ ·))=some o->
  ∃l',l'.length=n/\l'.take i=l.take i/\f266r fu (i:Int) (m:Int) (n:Int) e1 e2 e3 e5 e6 e7 e8 e9 l=some (outF (R:=Unit) o l')
 |rem,0,i,m,l,o,hl,hi,hf,hm,hs=>by omega
 |0,fu+1,i,m,l,o,hl,hi,hf,hm,hs=>by
  have hm0:m=0:=by omega
  subst hm0
  have hin:i=n:=by omega
  subst hin
  have hlt:l.take i=l:=List.take_of_length_le (by omega)
  have c0: ¬((0:Int)<((0:Nat):Int)):=by simp
  simp only[comps,List.map_cons,List.map_nil,List.append_nil,hlt,srch]at hs
  refine⟨l,hl,rfl,?_⟩
  unfold f266r
  simp only[decide_true,cond_true,c0,decide_false,cond_false]
  cases hB:f348 e1 e2 e3 e5 e6 e7 e8 e9 (i:Int) l with
  |none=>rw[hB]at hs;simp at hs
  |some x=>
   rw[hB]at hs
   rcases x with _|_|_<;>simp at hs<;>subst hs<;>rfl
 |rem+1,fu+1,i,m,l,o,hl,hi,hf,hm,hs=>by
  have c0: ¬((i:Int)=(n:Int)):=by omega
  have w1:wr ((i:Int)+1)=((i+1:Nat):Int):=wrNat (by omega)
  have w2:wr ((n:Int)-(i:Int))=((rem+1:Nat):Int):=by rw[wrI (by omega) (by omega)];omega
  have w3:wr (((rem+1:Nat):Int)-1)=(rem:Int):=by rw[wrI (by omega) (by omega)];omega
  have hil:i<l.length:=by omega
  have x0:l[i]? =some (l[i]'hil):=List.getElem?_eq_getElem _
  have first: ∀o1,srch (f348 e1 e2 e3 e5 e6 e7 e8 e9 (n:Int)) ((comps rem m).map ((l.take i++[false])++ ·))=some o1->m<=rem->
    ∃l',l'.length=n/\l'.take i=l.take i/\f266r fu ((i+1:Nat):Int) (m:Int) (n:Int) e1 e2 e3 e5 e6 e7 e8 e9 (l.set i false)=some (outF (R:=Unit) o1 l'):=λo1 h1 hmr=>by
   obtain⟨l',a1,a2,a3⟩:=f266r_eq n hn rem fu (i+1) m (l.set i false) o1 (by simpa using hl) (by omega) (by omega) hmr (by rw[set_take hil];exact h1)
   rw[set_take hil]at a2
   refine⟨l',a1,?_,a3⟩
   have:=congrArg (List.take i) a2
   rw[List.take_take,Nat.min_eq_left (by omega),List.take_left' (by simp;omega)]at this
   exact this
  have second: ∀(l2:List Bool)o1 m',m=m'+1->l2.length=n->l2.take i=l.take i->srch (f348 e1 e2 e3 e5 e6 e7 e8 e9 (n:Int)) ((comps rem m').map ((l.take i++[true])++ ·))=some o1->
    ∃l',l'.length=n/\l'.take i=l.take i/\f266r fu ((i+1:Nat):Int) (m':Int) (n:Int) e1 e2 e3 e5 e6 e7 e8 e9 (l2.set i true)=some (outF (R:=Unit) o1 l'):=λl2 o1 m' hm' hl2 ht2 h1=>by
   have hil2:i<l2.length:=by omega
   obtain⟨l',a1,a2,a3⟩:=f266r_eq n hn rem fu (i+1) m' (l2.set i true) o1 (by simpa using hl2) (by omega) (by omega) (by omega) (by rw[set_take hil2,ht2];exact h1)
   rw[set_take hil2,ht2]at a2
   refine⟨l',a1,?_,a3⟩
   have:=congrArg (List.take i) a2
   rw[List.take_take,Nat.min_eq_left (by omega),List.take_left' (by simp;omega)]at this
   exact this
  unfold f266r
  simp only[c0,decide_false,cond_false]
  have hF:FUEL=(FUEL-3)+1+1+1:=by unfold FUEL;omega
  rw[hF]
  generalize hbd:(λ(x:List Bool×Int)=>_:List Bool×Int->Option ((List Bool×Int)⊕((List Bool)⊕((List Bool)⊕((List Bool)⊕(GNChoice×GChord×List GGrip×List Bool))))))=body
  have g0:ix ([false,true]:List Bool) (0:Int)=some false:=rfl
  have g1:ix ([false,true]:List Bool) (1:Int)=some true:=rfl
  have k0:((0:Int)<2):=by omega
  have k1:((1:Int)<2):=by omega
  have k2: ¬((2:Int)<2):=by omega
  have v1:wr ((0:Int)+1)=1:=by rw[wrI (by omega) (by omega)];rfl
  have v2:wr ((1:Int)+1)=2:=by rw[wrI (by omega) (by omega)];rfl
  have mneg: ¬((m:Int)<0):=by omega
  have hA:rem<m->body (l,0)=some (.inl (l,1)):=λhlt=>by
   have c1:((rem:Int)<(m:Int)):=by omega
   rw[<-hbd]
   simp only[k0,decide_true,cond_true,g0,Option.bind_some,cond_false,mneg,decide_false,w2,w3,c1,v1,Sum.elim_inl]
  have hA': ∀(o1:Unit⊕((List GGrip×GChord×GNChoice)⊕Unit))l',m<=rem->f266r fu ((i+1:Nat):Int) (m:Int) (n:Int) e1 e2 e3 e5 e6 e7 e8 e9 (l.set i false)=some (outF (R:=Unit) o1 l')->
    body (l,0)=some (match outF (R:=Unit) o1 l' with|.inl q=>.inl (q,1)|.inr z=>.inr (.inr (.inr z))):=λo1 l' hle hc=>by
   have c1: ¬((rem:Int)<(m:Int)):=by omega
   rw[<-hbd]
   simp only[k0,decide_true,cond_true,g0,Option.bind_some,cond_false,mneg,decide_false,w2,w3,c1,v1,ixNat x0,w1,Int.toNat_natCast,hc]
   rcases o1 with _|_|_<;>rfl
  have hB: ∀l2:List Bool,m=0->body (l2,1)=some (.inl (l2,2)):=λl2 hm0=>by
   subst hm0
   have c1:wr (((0:Nat):Int)-1)<0:=by rw[wrI (by omega) (by omega)];omega
   rw[<-hbd]
   simp only[k1,decide_true,cond_true,g1,Option.bind_some,c1,v2,Sum.elim_inl]
  have hB': ∀(l2:List Bool)(o1:Unit⊕((List GGrip×GChord×GNChoice)⊕Unit))l'(m':Nat),m=m'+1->l2.length=n->f266r fu ((i+1:Nat):Int) (m':Int) (n:Int) e1 e2 e3 e5 e6 e7 e8 e9 (l2.set i true)=some (outF (R:=Unit) o1 l')->
    body (l2,1)=some (match outF (R:=Unit) o1 l' with|.inl q=>.inl (q,2)|.inr z=>.inr (.inr (.inr z))):=λl2 o1 l' m' hm' hl2 hc=>by
   have c1:wr ((m:Int)-1)=(m':Int):=by rw[wrI (by omega) (by omega)];omega
   have c2: ¬((m':Int)<0):=by omega
   have c3: ¬((rem:Int)<(m':Int)):=by omega
   have x2:l2[i]? =some (l2[i]'(by omega)):=List.getElem?_eq_getElem _
   rw[<-hbd]
   simp only[k1,decide_true,cond_true,g1,Option.bind_some,c1,c2,decide_false,cond_false,w2,w3,c3,v2,ixNat x2,w1,Int.toNat_natCast,hc]
   rcases o1 with _|_|_<;>rfl
  have hC: ∀l2:List Bool,body (l2,2)=some (.inr (.inl l2)):=λl2=>by
   rw[<-hbd]
   simp only[k2,decide_false,cond_false]
  clear hbd
  have mapF: ∀k,(comps rem k).map (λx=>l.take i++false::x)=(comps rem k).map ((l.take i++[false])++ ·):=λk=>by simp
  have mapT: ∀k,(comps rem k).map (λx=>l.take i++true::x)=(comps rem k).map ((l.take i++[true])++ ·):=λk=>by simp
  have rest: ∀(l2:List Bool)(N:Nat)(m':Nat),m=m'+1->l2.length=n->l2.take i=l.take i->srch (f348 e1 e2 e3 e5 e6 e7 e8 e9 (n:Int)) ((comps rem m').map ((l.take i++[true])++ ·))=some o->
    ∃l',l'.length=n/\l'.take i=l.take i/\(loopN body (N+1+1) (l2,1)).bind (Sum.elim (λl1x=>some (.inl l1x)) some)=some (outF (R:=Unit) o l'):=λl2 N m' hm' hl2 ht2 h1=>by
   obtain⟨l',a1,a2,a3⟩:=second l2 o m' hm' hl2 ht2 h1
   refine⟨l',a1,a2,?_⟩
   have hb:=hB' l2 o l' m' hm' hl2 a3
   rcases o with _|_|_
   ·rw[loop_out hb _ (by omega)];rfl
   ·rw[loop_out hb _ (by omega)];rfl
   ·rw[loop_on hb,loop_out (hC l') _ (by omega)];rfl
  cases m with
  |zero=>
   simp only[comps,List.map_map]at hs
   have hs:srch (f348 e1 e2 e3 e5 e6 e7 e8 e9 (n:Int)) ((comps rem 0).map ((l.take i++[false])++ ·))=some o:=by rw[<-mapF];exact hs
   obtain⟨l',a1,a2,a3⟩:=first o hs (by omega)
   refine⟨l',a1,a2,?_⟩
   have hb:=hA' o l' (by omega) a3
   rcases o with _|_|_
   ·rw[loop_out hb _ (by omega)];rfl
   ·rw[loop_out hb _ (by omega)];rfl
   ·rw[loop_on hb,loop_on (hB l' rfl),loop_out (hC l') _ (by omega)];rfl
  |succ m'=>
   simp only[comps,List.map_append,List.map_map]at hs
   have hs:srch (f348 e1 e2 e3 e5 e6 e7 e8 e9 (n:Int)) ((comps rem (m'+1)).map ((l.take i++[false])++ ·)++(comps rem m').map ((l.take i++[true])++ ·))=some o:=by rw[<-mapF,<-mapT];exact hs
   by_cases hle:m'+1<=rem
   ·rw[srch_append]at hs
    cases h1:srch (f348 e1 e2 e3 e5 e6 e7 e8 e9 (n:Int)) ((comps rem (m'+1)).map ((l.take i++[false])++ ·))with
    |none=>rw[h1]at hs;simp at hs
    |some o1=>
     rw[h1]at hs
     obtain⟨l',a1,a2,a3⟩:=first o1 h1 hle
     have hb:=hA' o1 l' hle a3
     rcases o1 with u|r|u
     ·simp at hs;subst hs
      exact⟨l',a1,a2,by rw[loop_out hb _ (by omega)];rfl⟩
     ·simp at hs;subst hs
      exact⟨l',a1,a2,by rw[loop_out hb _ (by omega)];rfl⟩
     ·obtain⟨l2,b1,b2,b3⟩:=rest l' _ m' rfl a1 a2 hs
      exact⟨l2,b1,b2,by rw[loop_on hb];exact b3⟩
   ·have h0:comps rem (m'+1)=[]:=comps_none rem (m'+1) (by omega)
    rw[h0]at hs
    simp only[List.map_nil,List.nil_append]at hs
    obtain⟨l2,b1,b2,b3⟩:=rest l _ m' rfl hl rfl hs
    exact⟨l2,b1,b2,by rw[loop_on (hA (by omega))];exact b3⟩
theorem f265_eq(n:Nat)(hn:n<=4194303)(o:Unit⊕((List GGrip×GChord×GNChoice)⊕Unit))(hs:srch (f348 e1 e2 e3 e5 e6 e7 e8 e9 (n:Int)) (flagsM n)=some o):f265 e1 e2 e3 e5 e6 e7 e8 e9 (n:Int)=some o:=by
 unfold f265
 have n1:(0:Int)<=(n:Int):=by omega
 have n2:(n:Int)<=(maxElems:Int):=by unfold maxElems;omega
 simp only[needP n1,needP n2,Int.toNat_natCast]
 have key: ∀(d k N:Nat)(l:List Bool),k+d=n+1->d<N->l.length=n->srch (f348 e1 e2 e3 e5 e6 e7 e8 e9 (n:Int)) ((List.range' k d).flatMap (comps n))=some o->
   (loopN (σ:=(List Bool×Int)) (τ:=(Unit⊕(Unit⊕((List GGrip×GChord×GNChoice)⊕Unit)))) (λ((l1_h40020,l1_5):(List Bool×Int))=>bif (decide (l1_5<=(n:Int)))then((f266 0 l1_5 (n:Int) e1 e2 e3 e5 e6 e7 e8 e9 l1_h40020).bind (Sum.elim (λr4a=>some (.inl (r4a,(wr (l1_5+1))))) (Sum.elim (λr4b=>some (.inr (.inr (.inl ())))) λr4c=>some (.inr (.inr (.inr (.inl (r4c.2.2.1,(⟨r4c.2.1.down,r4c.2.1.held,r4c.2.1.open_⟩:GChord),(⟨r4c.1.places,r4c.1.cut⟩:GNChoice)))))))))else(some (.inr (.inl ())))) N (l,(k:Int))).bind (Sum.elim (λ(_:Unit)=>some (.inr (.inr ()))) some)=some o:=by
  intro d
  induction d with
  |zero=>
   intro k N l hk hN hl h1
   simp only[List.range'_zero,List.flatMap_nil,srch]at h1
   cases h1
   have c1: ¬((k:Int)<=(n:Int)):=by omega
   rw[loop_out (r:=.inl ()) (by simp only[c1,decide_false,cond_false]) _ (by omega)]
   rfl
  |succ d ih=>
   intro k N l hk hN hl h1
   have c1:((k:Int)<=(n:Int)):=by omega
   rw[List.range'_succ,List.flatMap_cons,srch_append]at h1
   cases h2:srch (f348 e1 e2 e3 e5 e6 e7 e8 e9 (n:Int)) (comps n k)with
   |none=>rw[h2]at h1;simp at h1
   |some o1=>
    rw[h2]at h1
    obtain⟨l',a1,_,a3⟩:=f266r_eq e1 e2 e3 e5 e6 e7 e8 e9 n (by omega) n FUEL 0 k l o1 hl (by omega) (by unfold FUEL;omega) (by omega) (by simpa using h2)
    have a3:f266 0 (k:Int) (n:Int) e1 e2 e3 e5 e6 e7 e8 e9 l=some (outF (R:=Unit) o1 l'):=a3
    obtain⟨N,rfl⟩: ∃M,N=M+1:=⟨N-1,by omega⟩
    rcases o1 with u|r|u
    ·simp at h1;subst h1
     rw[loop_out (r:=.inr (.inl ())) (by simp only[c1,decide_true,cond_true,a3,Option.bind_some];rfl) _ (by omega)]
     rfl
    ·simp at h1;subst h1
     rw[loop_out (r:=.inr (.inr (.inl r))) (by simp only[c1,decide_true,cond_true,a3,Option.bind_some];rfl) _ (by omega)]
     rfl
    ·have w:wr ((k:Int)+1)=((k+1:Nat):Int):=wrNat (by omega)
     rw[loop_on (s':=(l',((k+1:Nat):Int))) (by simp only[c1,decide_true,cond_true,a3,Option.bind_some,<-w];rfl)]
     exact ih (k+1) N l' (by omega) (by omega) a1 h1
 have:=key (n+1) 0 FUEL (List.replicate n false) (by omega) (by unfold FUEL;omega) (by simp) (by rw[<-List.range_eq_range'];exact hs)
 exact this
end
end Go.Proofs.YtpbahncblggodaaGreat
set_option linter.all false
namespace Go.Proofs.YtpbahncblggodaaGreat
open Go Go.Am
set_option maxRecDepth 100000
def srch1{R:Type}(B:List Bool->Option (R⊕Unit)):List (List Bool)->Option (R⊕Unit)
 | []=>some (.inr ())
 |l::r=>match B l with
  |none=>none
  |some (.inr _)=>srch1 B r
  |some x=>some x
theorem srch1_append{R:Type}(B:List Bool->Option (R⊕Unit)): ∀(a b:List (List Bool)),srch1 B (a++b)=match srch1 B a with
  |some (.inr _)=>srch1 B b
  |x=>x
 | [],b=>rfl
 |l::r,b=>by
  simp only[List.cons_append,srch1]
  cases B l with
  |none=>rfl
  |some o=>
   rcases o with _|_
   ·rfl
   ·exact srch1_append B r b
section
variable (e1:List GNNote) (e2:GNDesk) (e3 e5:List GNNote) (e6:GNChoice) (e7:GChord) (e8:List GGrip) (e9:Bool) (al:List (List GPlace)) (e0:Int)
def outF1(o:(List GGrip×GChord×GNChoice)⊕Unit)(l:List Bool):(List Bool)⊕(GNChoice×GChord×List GGrip×List Bool):=match o with
 |.inl r=>.inr (r.2.2,r.2.1,r.1,l)
 |.inr _=>.inl l
theorem f266_1r_eq(n:Nat)(hn:n<=4194304): ∀(rem fu i m:Nat)(l:List Bool)(o:(List GGrip×GChord×GNChoice)⊕Unit),l.length=n->i+rem=n->rem<fu->m<=rem->
  srch1 (f349 e1 e2 e3 e5 e6 e7 e8 e9 al e0 (n:Int)) ((comps rem m).map (l.take i++ ·))=some o->
  ∃l',l'.length=n/\l'.take i=l.take i/\f266_1r fu (i:Int) (m:Int) (n:Int) e1 e2 e3 e5 e6 e7 e8 e9 al e0 l=some (outF1 o l')
 |rem,0,i,m,l,o,hl,hi,hf,hm,hs=>by omega
 |0,fu+1,i,m,l,o,hl,hi,hf,hm,hs=>by
  have hm0:m=0:=by omega
  subst hm0
  have hin:i=n:=by omega
  subst hin
  have hlt:l.take i=l:=List.take_of_length_le (by omega)
  have c0: ¬((0:Int)<((0:Nat):Int)):=by simp
  simp only[comps,List.map_cons,List.map_nil,List.append_nil,hlt,srch1]at hs
  refine⟨l,hl,rfl,?_⟩
  unfold f266_1r
  simp only[decide_true,cond_true,c0,decide_false,cond_false]
  cases hB:f349 e1 e2 e3 e5 e6 e7 e8 e9 al e0 (i:Int) l with
  |none=>rw[hB]at hs;simp at hs
  |some x=>
   rw[hB]at hs
   rcases x with _|_<;>simp at hs<;>subst hs<;>rfl
 |rem+1,fu+1,i,m,l,o,hl,hi,hf,hm,hs=>by
  have c0: ¬((i:Int)=(n:Int)):=by omega
  have w1:wr ((i:Int)+1)=((i+1:Nat):Int):=wrNat (by omega)
  have w2:wr ((n:Int)-(i:Int))=((rem+1:Nat):Int):=by rw[wrI (by omega) (by omega)];omega
  have w3:wr (((rem+1:Nat):Int)-1)=(rem:Int):=by rw[wrI (by omega) (by omega)];omega
  have hil:i<l.length:=by omega
  have x0:l[i]? =some (l[i]'hil):=List.getElem?_eq_getElem _
  have first: ∀o1,srch1 (f349 e1 e2 e3 e5 e6 e7 e8 e9 al e0 (n:Int)) ((comps rem m).map ((l.take i++[false])++ ·))=some o1->m<=rem->
    ∃l',l'.length=n/\l'.take i=l.take i/\f266_1r fu ((i+1:Nat):Int) (m:Int) (n:Int) e1 e2 e3 e5 e6 e7 e8 e9 al e0 (l.set i false)=some (outF1 o1 l'):=λo1 h1 hmr=>by
   obtain⟨l',a1,a2,a3⟩:=f266_1r_eq n hn rem fu (i+1) m (l.set i false) o1 (by simpa using hl) (by omega) (by omega) hmr (by rw[set_take hil];exact h1)
   rw[set_take hil]at a2
   refine⟨l',a1,?_,a3⟩
   have:=congrArg (List.take i) a2
   rw[List.take_take,Nat.min_eq_left (by omega),List.take_left' (by simp;omega)]at this
   exact this
  have second: ∀(l2:List Bool)o1 m',m=m'+1->l2.length=n->l2.take i=l.take i->srch1 (f349 e1 e2 e3 e5 e6 e7 e8 e9 al e0 (n:Int)) ((comps rem m').map ((l.take i++[true])++ ·))=some o1->
    ∃l',l'.length=n/\l'.take i=l.take i/\f266_1r fu ((i+1:Nat):Int) (m':Int) (n:Int) e1 e2 e3 e5 e6 e7 e8 e9 al e0 (l2.set i true)=some (outF1 o1 l'):=λl2 o1 m' hm' hl2 ht2 h1=>by
   have hil2:i<l2.length:=by omega
   obtain⟨l',a1,a2,a3⟩:=f266_1r_eq n hn rem fu (i+1) m' (l2.set i true) o1 (by simpa using hl2) (by omega) (by omega) (by omega) (by rw[set_take hil2,ht2];exact h1)
   rw[set_take hil2,ht2]at a2
   refine⟨l',a1,?_,a3⟩
   have:=congrArg (List.take i) a2
   rw[List.take_take,Nat.min_eq_left (by omega),List.take_left' (by simp;omega)]at this
   exact this
  unfold f266_1r
  simp only[c0,decide_false,cond_false]
  have hF:FUEL=(FUEL-3)+1+1+1:=by unfold FUEL;omega
  rw[hF]
  generalize hbd:(λ(x:List Bool×Int)=>_:List Bool×Int->Option ((List Bool×Int)⊕((List Bool)⊕((List Bool)⊕(GNChoice×GChord×List GGrip×List Bool)))))=body
  have g0:ix ([false,true]:List Bool) (0:Int)=some false:=rfl
  have g1:ix ([false,true]:List Bool) (1:Int)=some true:=rfl
  have k0:((0:Int)<2):=by omega
  have k1:((1:Int)<2):=by omega
  have k2: ¬((2:Int)<2):=by omega
  have v1:wr ((0:Int)+1)=1:=by rw[wrI (by omega) (by omega)];rfl
  have v2:wr ((1:Int)+1)=2:=by rw[wrI (by omega) (by omega)];rfl
  have mneg: ¬((m:Int)<0):=by omega
  have hA:rem<m->body (l,0)=some (.inl (l,1)):=λhlt=>by
   have c1:((rem:Int)<(m:Int)):=by omega
   rw[<-hbd]
   simp only[k0,decide_true,cond_true,g0,Option.bind_some,cond_false,mneg,decide_false,w2,w3,c1,v1,Sum.elim_inl]
  have hA': ∀(o1:(List GGrip×GChord×GNChoice)⊕Unit)l',m<=rem->f266_1r fu ((i+1:Nat):Int) (m:Int) (n:Int) e1 e2 e3 e5 e6 e7 e8 e9 al e0 (l.set i false)=some (outF1 o1 l')->
    body (l,0)=some (match outF1 o1 l' with|.inl q=>.inl (q,1)|.inr z=>.inr (.inr (.inr z))):=λo1 l' hle hc=>by
   have c1: ¬((rem:Int)<(m:Int)):=by omega
   rw[<-hbd]
   simp only[k0,decide_true,cond_true,g0,Option.bind_some,cond_false,mneg,decide_false,w2,w3,c1,v1,ixNat x0,w1,Int.toNat_natCast,hc]
   rcases o1 with _|_<;>rfl
  have hB: ∀l2:List Bool,m=0->body (l2,1)=some (.inl (l2,2)):=λl2 hm0=>by
   subst hm0
   have c1:wr (((0:Nat):Int)-1)<0:=by rw[wrI (by omega) (by omega)];omega
   rw[<-hbd]
   simp only[k1,decide_true,cond_true,g1,Option.bind_some,c1,v2,Sum.elim_inl]
  have hB': ∀(l2:List Bool)(o1:(List GGrip×GChord×GNChoice)⊕Unit)l'(m':Nat),m=m'+1->l2.length=n->f266_1r fu ((i+1:Nat):Int) (m':Int) (n:Int) e1 e2 e3 e5 e6 e7 e8 e9 al e0 (l2.set i true)=some (outF1 o1 l')->
    body (l2,1)=some (match outF1 o1 l' with|.inl q=>.inl (q,2)|.inr z=>.inr (.inr (.inr z))):=λl2 o1 l' m' hm' hl2 hc=>by
   have c1:wr ((m:Int)-1)=(m':Int):=by rw[wrI (by omega) (by omega)];omega
   have c2: ¬((m':Int)<0):=by omega
   have c3: ¬((rem:Int)<(m':Int)):=by omega
   have x2:l2[i]? =some (l2[i]'(by omega)):=List.getElem?_eq_getElem _
   rw[<-hbd]
   simp only[k1,decide_true,cond_true,g1,Option.bind_some,c1,c2,decide_false,cond_false,w2,w3,c3,v2,ixNat x2,w1,Int.toNat_natCast,hc]
   rcases o1 with _|_<;>rfl
  have hC: ∀l2:List Bool,body (l2,2)=some (.inr (.inl l2)):=λl2=>by
   rw[<-hbd]
   simp only[k2,decide_false,cond_false]
  clear hbd
  have mapF: ∀k,(comps rem k).map (λx=>l.take i++false::x)=(comps rem k).map ((l.take i++[false])++ ·):=λk=>by simp
  have mapT: ∀k,(comps rem k).map (λx=>l.take i++true::x)=(comps rem k).map ((l.take i++[true])++ ·):=λk=>by simp
  have rest: ∀(l2:List Bool)(N:Nat)(m':Nat),m=m'+1->l2.length=n->l2.take i=l.take i->srch1 (f349 e1 e2 e3 e5 e6 e7 e8 e9 al e0 (n:Int)) ((comps rem m').map ((l.take i++[true])++ ·))=some o->
    ∃l',l'.length=n/\l'.take i=l.take i/\(loopN body (N+1+1) (l2,1)).bind (Sum.elim (λl1x=>some (.inl l1x)) some)=some (outF1 o l'):=λl2 N m' hm' hl2 ht2 h1=>by
   obtain⟨l',a1,a2,a3⟩:=second l2 o m' hm' hl2 ht2 h1
   refine⟨l',a1,a2,?_⟩
   have hb:=hB' l2 o l' m' hm' hl2 a3
   rcases o with _|_
   ·rw[loop_out hb _ (by omega)];rfl
   ·rw[loop_on hb,loop_out (hC l') _ (by omega)];rfl
  cases m with
  |zero=>
   simp only[comps,List.map_map]at hs
   have hs:srch1 (f349 e1 e2 e3 e5 e6 e7 e8 e9 al e0 (n:Int)) ((comps rem 0).map ((l.take i++[false])++ ·))=some o:=by rw[<-mapF];exact hs
   obtain⟨l',a1,a2,a3⟩:=first o hs (by omega)
   refine⟨l',a1,a2,?_⟩
   have hb:=hA' o l' (by omega) a3
   rcases o with _|_
   ·rw[loop_out hb _ (by omega)];rfl
   ·rw[loop_on hb,loop_on (hB l' rfl),loop_out (hC l') _ (by omega)];rfl
  |succ m'=>
   simp only[comps,List.map_append,List.map_map]at hs
   have hs:srch1 (f349 e1 e2 e3 e5 e6 e7 e8 e9 al e0 (n:Int)) ((comps rem (m'+1)).map ((l.take i++[false])++ ·)++(comps rem m').map ((l.take i++[true])++ ·))=some o:=by rw[<-mapF,<-mapT];exact hs
   by_cases hle:m'+1<=rem
   ·rw[srch1_append]at hs
    cases h1:srch1 (f349 e1 e2 e3 e5 e6 e7 e8 e9 al e0 (n:Int)) ((comps rem (m'+1)).map ((l.take i++[false])++ ·))with
    |none=>rw[h1]at hs;simp at hs
    |some o1=>
     rw[h1]at hs
     obtain⟨l',a1,a2,a3⟩:=first o1 h1 hle
     have hb:=hA' o1 l' hle a3
     rcases o1 with r|u
     ·simp at hs;subst hs
      exact⟨l',a1,a2,by rw[loop_out hb _ (by omega)];rfl⟩
     ·obtain⟨l2,b1,b2,b3⟩:=rest l' _ m' rfl a1 a2 hs
      exact⟨l2,b1,b2,by rw[loop_on hb];exact b3⟩
   ·have h0:comps rem (m'+1)=[]:=comps_none rem (m'+1) (by omega)
    rw[h0]at hs
    simp only[List.map_nil,List.nil_append]at hs
    obtain⟨l2,b1,b2,b3⟩:=rest l _ m' rfl hl rfl hs
    exact⟨l2,b1,b2,by rw[loop_on (hA (by omega))];exact b3⟩
theorem f265_1_eq(n:Nat)(hn:n<=4194303)(o:(List GGrip×GChord×GNChoice)⊕Unit)(hs:srch1 (f349 e1 e2 e3 e5 e6 e7 e8 e9 al e0 (n:Int)) (flagsM n)=some o):f265_1 e1 e2 e3 e5 e6 e7 e8 e9 al e0 (n:Int)=some o:=by
 unfold f265_1
 have n1:(0:Int)<=(n:Int):=by omega
 have n2:(n:Int)<=(maxElems:Int):=by unfold maxElems;omega
 simp only[needP n1,needP n2,Int.toNat_natCast]
 have key: ∀(d k N:Nat)(l:List Bool),k+d=n+1->d<N->l.length=n->srch1 (f349 e1 e2 e3 e5 e6 e7 e8 e9 al e0 (n:Int)) ((List.range' k d).flatMap (comps n))=some o->
   (loopN (σ:=(List Bool×Int)) (τ:=(Unit⊕((List GGrip×GChord×GNChoice)⊕Unit))) (λ((l1_h40022,l1_5):(List Bool×Int))=>bif (decide (l1_5<=(n:Int)))then((f266_1 0 l1_5 (n:Int) e1 e2 e3 e5 e6 e7 e8 e9 al e0 l1_h40022).bind (Sum.elim (λr4a=>some (.inl (r4a,(wr (l1_5+1))))) λr4b=>some (.inr (.inr (.inl (r4b.2.2.1,(⟨r4b.2.1.down,r4b.2.1.held,r4b.2.1.open_⟩:GChord),(⟨r4b.1.places,r4b.1.cut⟩:GNChoice)))))))else(some (.inr (.inl ())))) N (l,(k:Int))).bind (Sum.elim (λ(_:Unit)=>some (.inr ())) some)=some o:=by
  intro d
  induction d with
  |zero=>
   intro k N l hk hN hl h1
   simp only[List.range'_zero,List.flatMap_nil,srch1]at h1
   cases h1
   have c1: ¬((k:Int)<=(n:Int)):=by omega
   rw[loop_out (r:=.inl ()) (by simp only[c1,decide_false,cond_false]) _ (by omega)]
   rfl
  |succ d ih=>
   intro k N l hk hN hl h1
   have c1:((k:Int)<=(n:Int)):=by omega
   rw[List.range'_succ,List.flatMap_cons,srch1_append]at h1
   cases h2:srch1 (f349 e1 e2 e3 e5 e6 e7 e8 e9 al e0 (n:Int)) (comps n k)with
   |none=>rw[h2]at h1;simp at h1
   |some o1=>
    rw[h2]at h1
    obtain⟨l',a1,_,a3⟩:=f266_1r_eq e1 e2 e3 e5 e6 e7 e8 e9 al e0 n (by omega) n FUEL 0 k l o1 hl (by omega) (by unfold FUEL;omega) (by omega) (by simpa using h2)
    have a3:f266_1 0 (k:Int) (n:Int) e1 e2 e3 e5 e6 e7 e8 e9 al e0 l=some (outF1 o1 l'):=a3
    obtain⟨N,rfl⟩: ∃M,N=M+1:=⟨N-1,by omega⟩
    rcases o1 with r|u
    ·simp at h1;subst h1
     rw[loop_out (r:=.inr (.inl r)) (by simp only[c1,decide_true,cond_true,a3,Option.bind_some];rfl) _ (by omega)]
     rfl
    ·have w:wr ((k:Int)+1)=((k+1:Nat):Int):=wrNat (by omega)
     rw[loop_on (s':=(l',((k+1:Nat):Int))) (by simp only[c1,decide_true,cond_true,a3,Option.bind_some,<-w];rfl)]
     exact ih (k+1) N l' (by omega) (by omega) a1 h1
 have:=key (n+1) 0 FUEL (List.replicate n false) (by omega) (by unfold FUEL;omega) (by simp) (by rw[<-List.range_eq_range'];exact hs)
 exact this
end
end Go.Proofs.YtpbahncblggodaaGreat
set_option linter.all false
namespace Go.Proofs.YtpbahncblggodaaGreat
open Go Go.Am
set_option maxRecDepth 100000
def cmpI(a b:Int):Int:=if a<b then -1 else if b<a then 1 else 0
theorem f104_eq(a b:Int):f104 a b=some (cmpI a b):=by
 unfold f104 f177 cmpI
 simp only[ne_eq,not_true_eq_false,decide_false,Option.bind_some,cond_false]
 by_cases h1:a<b
 ·simp[h1]
 ·by_cases h2:b<a
  ·simp[h1,h2]
  ·simp[h1,h2]
theorem f103_eq(l:List Int)(hs:Small l):f103 l=some ((l.find? λx=>decide (x≠0)).getD 0):=by
 unfold f103
 rw[loop_find l (λx=>decide (x≠0)) (λ_ x=>x) hs,findS_find]
 ·cases l.find? _<;>rfl
 ·intro i y hy
  simp only[dltLen hy,cond_true,ixNat hy,Option.bind_some]
  cases decide (y≠0)<;>rfl
 ·simp
def fretsW(l:List GPlace):Int:=l.foldl (λn p=>wr (n+p.fret)) 0
theorem f271_eq(l:List GPlace)(hs:Small l):f271 l=some (fretsW l):=by
 unfold f271
 have h:=loop_fold (body:=λ((l1_2,l1_7):(Int×Int))=>bif (decide (l1_7<(l.length:Int)))then((ix l l1_7).bind λy2=>some (.inl ((wr (l1_2+y2.fret)),(wr (l1_7+1)))))else(some (.inr l1_2)))
  (λa i=>(a,i)) (λ_ a(p:GPlace)=>(.inl (wr (a+p.fret)):Int⊕Int)) (λa=>a) l (λ_ _=>True) 0 (small_fuel hs) trivial
  (λi a y hy _=>⟨by simp only[dltLen hy,cond_true,ixNat hy,Option.bind_some,wrLen hs hy];rfl,λ_ _=>trivial⟩) (λa _=>by simp)
 rw[h,foldE_inl]
 rfl
theorem f272_ex(a b:List GPlace)(ha:Small a)(hb:Small b): ∃r,f272 a b=some r/\True:=by
 have ha':a.length<=4194304:=ha
 unfold f272
 refine loopB (λk(s:Int)=>s=(k:Int)) (λ_=>True) a.length ha' rfl ?_ ?_ ?_
 ·rintro k s hk rfl
  have e1:a[k]? =some (a[k]'hk):=List.getElem?_eq_getElem _
  simp only[dltLen e1,cond_true,ixNat e1,Option.bind_some,wrLen ha e1]
  by_cases c1:(b.length:Int)<=(k:Int)
  ·simp only[c1,decide_true,cond_true]
   exact .inr ⟨_,rfl,trivial⟩
  ·have e2:b[k]? =some (b[k]'(by omega)):=List.getElem?_eq_getElem _
   simp only[c1,decide_false,cond_false,ixNat e2,Option.bind_some,f273,f104_eq]
   cases decide (cmpI (a[k]'hk).course (b[k]'(by omega)).course≠0)
   ·exact .inl ⟨_,rfl,rfl⟩
   ·exact .inr ⟨_,rfl,trivial⟩
 ·rintro s rfl
  simp only[Int.lt_irrefl,decide_false,cond_false]
  exact⟨_,rfl,trivial⟩
 ·intro o _
  cases o with
  |inr z=>exact⟨z,rfl,trivial⟩
  |inl _=>
   simp only[Sum.elim_inl]
   cases decide ((a.length:Int)<(b.length:Int))<;>exact⟨_,rfl,trivial⟩
theorem f270_ex(a b:List GPlace)(ha:Small a)(hb:Small b): ∃r,f270 a b=some r/\True:=by
 unfold f270
 obtain⟨r,e,_⟩:=f272_ex a b ha hb
 simp only[f271_eq a ha,f271_eq b hb,f104_eq,e,Option.bind_some,f103_eq _ (show Small [_,_]by simp[Small])]
 exact⟨_,rfl,trivial⟩
theorem f322_ex(l0:List (List GPlace))(hs:Small l0)(hp: ∀p∈l0,Small p)(hi:Nat)(hh:hi<=l0.length): ∃r,f322 l0 0 (hi:Int)=some r/\r.Perm l0:=by
 have hs':l0.length<=4194304:=hs
 unfold f322
 refine loopB (λk(s:List (List GPlace)×Int)=>s.2=((k+1:Nat):Int)/\s.1.Perm l0) (λr=>r.Perm l0) (hi-1) (by omega) ⟨by rw[wrI (by omega) (by omega)];rfl,.refl _⟩ ?_ ?_ ?_
 ·rintro k ⟨l,s2⟩ hk ⟨e,hpm⟩
  simp only at e hpm
  subst e
  have c1:((k+1:Nat):Int)<(hi:Int):=by omega
  have hlen:=hpm.length_eq
  simp only[c1,decide_true,cond_true]
  have:=loop_E (body:=λ((l2_0,l2_9):(List (List GPlace)×Int))=>((bif (decide ((0:Int)<l2_9))then((ix l2_0 l2_9).bind λy3=>(ix l2_0 (wr (l2_9-1))).bind λy4=>(f270 y3 y4).bind λr5=>some (decide (r5<0)))else(some false)):Option Bool).bind λ(j3_34:Bool)=>bif j3_34 then((ix l2_0 (wr (l2_9-1))).bind λy7=>(ix l2_0 l2_9).bind λy8=>(ix (l2_0.set l2_9.toNat y7) (wr (l2_9-1))).bind λy9=>some (.inl (((l2_0.set l2_9.toNat y7).set (wr (l2_9-1)).toNat y8),(wr (l2_9-1)))))else(some (.inr l2_0)))
   (λm(s:List (List GPlace)×Int)=>s.2=((k+1-m:Nat):Int)/\s.1.Perm l0) (λr=>r.Perm l0) (k+1) (s0:=(l,((k+1:Nat):Int))) (by omega) ⟨rfl,hpm⟩ ?_ ?_
  ·obtain⟨r,h1,h2⟩:=this
   rw[h1]
   simp only[Option.bind_some]
   rw[wrNat (by omega)]
   exact .inl ⟨_,rfl,rfl,h2⟩
  ·rintro m ⟨q,s2⟩ hm ⟨e,hq⟩
   simp only at e hq
   subst e
   have hql:=hq.length_eq
   have c2:(0:Int)<((k+1-m:Nat):Int):=by omega
   have x1:q[k+1-m]? =some (q[k+1-m]'(by omega)):=List.getElem?_eq_getElem _
   have x2:q[k-m]? =some (q[k-m]'(by omega)):=List.getElem?_eq_getElem _
   have w:wr (((k+1-m:Nat):Int)-1)=((k-m:Nat):Int):=by rw[wrI (by omega) (by omega)];omega
   obtain⟨r5,e5,_⟩:=f270_ex (q[k+1-m]'(by omega)) (q[k-m]'(by omega)) (hp _ (hq.mem_iff.1 (List.getElem_mem _))) (hp _ (hq.mem_iff.1 (List.getElem_mem _)))
   simp only[c2,decide_true,cond_true,ixNat x1,w,ixNat x2,e5,Option.bind_some]
   cases decide (r5<0)
   ·exact .inr ⟨_,rfl,hq⟩
   ·have x3:(q.set (k+1-m) (q[k-m]'(by omega)))[k-m]? =some (q[k-m]'(by omega)):=by rw[List.getElem?_set_ne (by omega)];exact x2
    simp only[cond_true,Int.toNat_natCast,ixNat x3,Option.bind_some]
    refine .inl ⟨_,rfl,?_,?_⟩
    ·show((k-m:Nat):Int)=((k+1-(m+1):Nat):Int);omega
    ·exact(@List.set_set_perm _ q (k+1-m) (k-m) (by omega) (by omega)).trans hq
  ·rintro⟨q,s2⟩ ⟨e,hq⟩
   simp only at e hq
   subst e
   have c2: ¬((0:Int)<((k+1-(k+1):Nat):Int)):=by omega
   simp only[c2,decide_false,cond_false,Option.bind_some]
   exact⟨_,rfl,hq⟩
 ·rintro⟨l,s2⟩ ⟨e,hpm⟩
  simp only at e hpm
  subst e
  have c1: ¬(((hi-1+1:Nat):Int)<(hi:Int)):=by omega
  simp only[c1,decide_false,cond_false]
  exact⟨_,rfl,hpm⟩
 ·intro r hr
  exact⟨r,rfl,hr⟩
theorem f269_small(l:List (List GPlace))(hl:l.length<=19)(hp: ∀p∈l,Small p): ∃r,f269 l=some r/\r.Perm l:=by
 unfold f269 f306
 obtain⟨r,h1,h2⟩:=f322_ex l (by simp only[Small];omega) hp l.length (Nat.le_refl _)
 have c1: ¬((20:Int)<=(l.length:Int)):=by omega
 have c2: ¬((20:Int)<(l.length:Int)):=by omega
 rw[loop_out (r:=(l,(0:Int))) (by simp only[c1,decide_false,cond_false]) _ (by unfold FUEL;omega)]
 have hlen:=h2.length_eq
 simp only[Option.bind_some,h1,needP hlen]
 rw[loop_out (r:=r) (by simp only[c2,decide_false,cond_false]) _ (by unfold FUEL;omega)]
 exact⟨r,rfl,h2⟩
def ways(a:GInstrument)(s:Int):List GNNote->List Bool->List GPlace->List (List GPlace)
 |n::ns,b::bs,pre=>bif b then ways a s ns bs (pre++[⟨0,0⟩])else bif decide ((placesS a (wr (n.pitch+s))).2≠0)then []else
  ((placesS a (wr (n.pitch+s))).1.filter λp=>!(pre.any (onC p.course))).flatMap λp=>ways a s ns bs (pre++[p])
 |_,_,pre=>[pre]
theorem f268_eq(l:List GPlace)(h:Small l):f268 l=some l:=by
 unfold f268
 by_cases c:l=[]
 ·subst c;simp
 ·have:l.length<=maxElems:=by simp only[Small]at h;unfold maxElems;omega
  rw[show l.isEmpty=false from by simpa using c];simp[needP this]
theorem placesS_small(a:GInstrument)(p:Int):(placesS a p).1.length<=300:=by
 unfold placesS
 by_cases h:instS a=0
 ·obtain⟨h1,h2,_,_,h5⟩:=instS_ok h
  have:=placesL_len a.steps p a.courses 0 (λc hc=>by
   obtain⟨q1,q2,_⟩:=courseS_ok (h5 c hc)
   omega)
  simp only[h,if_true,ne_eq,not_true_eq_false,if_false]
  generalize(decide (p<0)||decide (127<p))=b
  cases b<;>simp <;>omega
 ·simp[h]
theorem f267_eq(a:GInstrument)(s:Int)(fresh:List GNNote)(drop:List Bool)(hn:fresh.length<=4000)(hd:drop.length=fresh.length): ∀(rem fu i:Nat)(all:List (List GPlace))(l:List GPlace),l.length=fresh.length->i+rem=fresh.length->rem<fu->
  all.length+(ways a s (fresh.drop i) (drop.drop i) (l.take i)).length<=4000000->
  ∃l',l'.length=l.length/\l'.take i=l.take i/\f267r fu (i:Int) fresh all l drop a s=some (all++ways a s (fresh.drop i) (drop.drop i) (l.take i),l')
 |rem,0,i,all,l,hl,hi,hf,hb=>by omega
 |0,fu+1,i,all,l,hl,hi,hf,hb=>by
  have hin:i=fresh.length:=by omega
  subst hin
  have h1:fresh.drop fresh.length=[]:=by simp
  have h2:l.take fresh.length=l:=List.take_of_length_le (by omega)
  rw[h1,h2]at hb ⊢
  simp only[ways,List.length_cons,List.length_nil]at hb ⊢
  have m1:all.length+1<=maxElems:=by unfold maxElems;omega
  refine⟨l,rfl,h2,?_⟩
  unfold f267r
  simp only[decide_true,cond_true,f268_eq l (by simp only[Small];omega),Option.bind_some,needP m1]
 |rem+1,fu+1,i,all,l,hl,hi,hf,hb=>by
  have hil:i<fresh.length:=by omega
  have x1:fresh[i]? =some (fresh[i]'hil):=List.getElem?_eq_getElem _
  have x2:drop[i]? =some (drop[i]'(by omega)):=List.getElem?_eq_getElem _
  have x3:l[i]? =some (l[i]'(by omega)):=List.getElem?_eq_getElem _
  have d1:fresh.drop i=fresh[i]'hil::fresh.drop (i+1):=List.drop_eq_getElem_cons hil
  have d2:drop.drop i=drop[i]'(by omega)::drop.drop (i+1):=List.drop_eq_getElem_cons (by omega)
  have c0: ¬((i:Int)=(fresh.length:Int)):=by omega
  have w1:wr ((i:Int)+1)=((i+1:Nat):Int):=wrNat (by omega)
  have m0:i<famCap:=by unfold famCap;omega
  rw[d1,d2]at hb ⊢
  generalize fresh[i]'hil=y at x1 hb ⊢
  unfold f267r
  simp only[c0,decide_false,cond_false,ixNat x3,ixNat x2,Option.bind_some,w1,Int.toNat_natCast]
  generalize drop[i]'(by omega)=b at x2 hb ⊢
  cases b with
  |true=>
   simp only[ways,cond_true]at hb ⊢
   have ht:(l.set i ⟨0,0⟩).take (i+1)=l.take i++[⟨0,0⟩]:=set_take (by omega)
   obtain⟨l',a1,a2,a3⟩:=f267_eq a s fresh drop hn hd rem fu (i+1) all (l.set i ⟨0,0⟩) (by simpa using hl) (by omega) (by omega) (by rw[ht];exact hb)
   rw[ht]at a2 a3
   refine⟨l',by simpa using a1,?_,by simp only[a3,Option.bind_some]⟩
   have:=congrArg (List.take i) a2
   rw[List.take_take,Nat.min_eq_left (by omega),List.take_left' (by simp;omega)]at this
   exact this
  |false=>
   simp only[ways,cond_false]at hb ⊢
   simp only[ixNat x1,Option.bind_some,needP m0,f124_eq]
   have hps:=placesS_small a (wr (y.pitch+s))
   generalize hP:placesS a (wr (y.pitch+s))=P at hb hps ⊢
   obtain⟨P,e⟩:=P
   simp only at hb hps ⊢
   by_cases he:e=0
   ·subst he
    simp only[ne_eq,not_true_eq_false,decide_false,cond_false]at hb ⊢
    have hlt0:(l.set i ⟨0,0⟩).take i=l.take i:=by rw[List.take_set_of_le (Nat.le_refl i)]
    have hW:=λk=>(List.take_append_drop k P).symm
    let W:=λ(Q:List GPlace)=>(Q.filter λp=>!((l.take i).any (onC p.course))).flatMap λp=>ways a s (fresh.drop (i+1)) (drop.drop (i+1)) (l.take i++[p])
    have hWle: ∀k,(W (P.take k)).length<=(W P).length:=λk=>by
     have:W P=W (P.take k)++W (P.drop k):=by
      show W P=_
      rw[<-List.flatMap_append,<-List.filter_append,List.take_append_drop]
     rw[this,List.length_append];omega
    have hb:all.length+(W P).length<=4000000:=hb
    have key:=loop_E (body:=λ((l1_h20005,l1_h20003,l1_52):(List GPlace×List (List GPlace)×Int))=>bif (decide (l1_52<(P.length:Int)))then((((ix P l1_52).bind λy13=>need (0<=(i:Int))<|need (i<=l1_h20005.length)<|need (0+i<=l1_h20005.length)<|(f223 (l1_h20005.take i) y13.course).bind λr17=>bif (!r17)then((ix l1_h20005 (i:Int)).bind λy19=>(f267r fu ((i+1:Nat):Int) fresh l1_h20003 (l1_h20005.set i y13) drop a s).bind λr20=>some (r20.2,r20.1))else(some (l1_h20005,l1_h20003))):Option (List GPlace×List (List GPlace))).bind λ((j2_h20005,j2_h20003):(List GPlace×List (List GPlace)))=>some (.inl (j2_h20005,j2_h20003,(wr (l1_52+1)))))else(some (.inr (l1_h20003,l1_h20005))))
     (λk(st:List GPlace×List (List GPlace)×Int)=>st.2.2=(k:Int)/\st.1.length=l.length/\st.1.take i=l.take i/\st.2.1=all++W (P.take k)) (λr=>r.1=all++W P/\r.2.length=l.length/\r.2.take i=l.take i) P.length (s0:=(l.set i ⟨0,0⟩,all,0)) (by omega) ⟨rfl,by simp,hlt0,by simp[W]⟩ ?_ ?_
    ·obtain⟨⟨r1,r2⟩,k1,k2,k3,k4⟩:=key
     simp only at k2 k3 k4
     refine⟨r2,k3,k4,?_⟩
     simp only[k1,Option.bind_some,k2]
     rfl
    ·rintro k ⟨q1,q2,q3⟩ hk ⟨e1,e2,e3,e4⟩
     simp only at e1 e2 e3 e4
     subst e1;subst e4
     have g1:P[k]? =some (P[k]'hk):=List.getElem?_eq_getElem _
     generalize P[k]'hk=p at g1
     have hsP:Small P:=by simp only[Small];omega
     have n1:(0:Int)<=(i:Int):=by omega
     have n2:i<=q1.length:=by omega
     have n3:0+i<=q1.length:=by omega
     have g3:q1[i]? =some (q1[i]'(by omega)):=List.getElem?_eq_getElem _
     have hW1:W (P.take (k+1))=W (P.take k)++W [p]:=by
      show W _=_
      rw[take_snoc g1,<-List.flatMap_append,<-List.filter_append]
     simp only[dltLen g1,cond_true,ixNat g1,Option.bind_some,wrLen hsP g1,needP n1,needP n2,needP n3,e3,f223_eq _ _ (show Small (l.take i)by simp only[Small,List.length_take];omega)]
     cases hA:(l.take i).any (onC p.course)
     ·have hW2:W [p]=ways a s (fresh.drop (i+1)) (drop.drop (i+1)) (l.take i++[p]):=by
       show List.flatMap _ (List.filter _ [p])=_
       simp[hA]
      have ht:(q1.set i p).take (i+1)=l.take i++[p]:=by rw[set_take (by omega),e3]
      have hle:=hWle (k+1)
      rw[hW1,List.length_append,hW2]at hle
      obtain⟨l',a1,a2,a3⟩:=f267_eq a s fresh drop hn hd rem fu (i+1) (all++W (P.take k)) (q1.set i p) (by simp;omega) (by omega) (by omega) (by rw[ht,List.length_append];omega)
      rw[ht]at a2 a3
      simp only[Bool.not_false,cond_true,ixNat g3,Option.bind_some,a3]
      refine .inl ⟨_,rfl,rfl,?_,?_,?_⟩
      ·show l'.length=l.length;rw[a1];simp[e2]
      ·have:=congrArg (List.take i) a2
       rw[List.take_take,Nat.min_eq_left (by omega),List.take_left' (by simp;omega)]at this
       exact this
      ·show _=all++W (P.take (k+1))
       rw[hW1,hW2,List.append_assoc]
     ·have hW2:W [p]=[]:=by
       show List.flatMap _ (List.filter _ [p])=_
       simp[hA]
      simp only[Bool.not_true,cond_false,Option.bind_some]
      refine .inl ⟨_,rfl,rfl,e2,e3,?_⟩
      show _=all++W (P.take (k+1))
      rw[hW1,hW2,List.append_nil]
    ·rintro⟨q1,q2,q3⟩ ⟨e1,e2,e3,e4⟩
     simp only at e1 e2 e3 e4
     subst e1;subst e4
     simp only[Int.lt_irrefl,decide_false,cond_false]
     exact⟨_,rfl,by simp,e2,e3⟩
   ·simp only[ne_eq,he,not_false_eq_true,decide_true,cond_true,List.append_nil]at hb ⊢
    exact⟨l.set i ⟨0,0⟩,by simp,by rw[List.take_set_of_le (Nat.le_refl i)],rfl⟩
theorem f220_ex(a:GInstrument)(s:Int)(fresh:List GNNote)(drop:List Bool)(hn:fresh.length<=4000)(hd:drop.length=fresh.length)(hw:(ways a s fresh drop []).length<=4000000)
  (hsort: ∃r,f269 (ways a s fresh drop [])=some r/\r.Perm (ways a s fresh drop [])): ∃r,f220 a fresh drop s=some r/\r.Perm (ways a s fresh drop []):=by
 unfold f220
 have n1:(0:Int)<=(fresh.length:Int):=by omega
 have n2:(fresh.length:Int)<=(maxElems:Int):=by unfold maxElems;omega
 obtain⟨l',_,_,h3⟩:=f267_eq a s fresh drop hn hd fresh.length FUEL 0 [] (List.replicate fresh.length ⟨0,0⟩) (by simp) (by omega) (by unfold FUEL;omega) (by simpa using hw)
 have h3:f267 0 fresh [] (List.replicate fresh.length ⟨0,0⟩) drop a s=some ([]++ways a s (fresh.drop 0) (drop.drop 0) ((List.replicate fresh.length (⟨0,0⟩:GPlace)).take 0),l'):=h3
 simp only[List.drop_zero,List.take_zero,List.nil_append]at h3
 obtain⟨r,h4,h5⟩:=hsort
 simp only[needP n1,needP n2,Int.toNat_natCast,h3,Option.bind_some,h4,needP h5.length_eq]
 exact⟨r,rfl,h5⟩
end Go.Proofs.YtpbahncblggodaaGreat
set_option linter.all false
namespace Go.Proofs.YtpbahncblggodaaGreat
open Go Go.Am Go.Sort
set_option maxRecDepth 100000
theorem cmpI_neg(a b:Int):decide (cmpI a b<0)=decide (a<b):=by
 unfold cmpI
 by_cases h1:a<b
 ·simp[h1]
 ·by_cases h2:b<a<;>simp[h1,h2]
theorem less_key{α:Type}{k:α->Int}{fg:α->α->Option Int}{x y:α}(h:fg x y=some (cmpI (k x) (k y))):lessF fg x y=decide (k x<k y):=by
 unfold lessF
 rw[h]
 exact cmpI_neg _ _
theorem sortF_mem{α:Type}[DecidableEq α](k:α->Int)(fg:α->α->Option Int)(l:List α)(hg: ∀x∈l,∀y∈l,fg x y=some (cmpI (k x) (k y)))(hs:Small l)(hd: ∀x∈l,∀y∈l,k x=k y->x=y):
  ∃r,sortF fg l=some r/\r.Perm l/\r.Pairwise λx y=>k x<=k y:=by
 have hlt: ∀x∈l,∀y∈l,lessF fg x y=decide (k x<k y):=λx hx y hy=>less_key (hg x hx y hy)
 obtain⟨r,h1,h2,h3⟩:=sortF_ok (fg:=fg) (l:=l) ⟨hs,λx hx y hy=>by rw[hg x hx y hy];rfl,λx hx=>by rw[hlt x hx x hx];simp,
  λx hx y hy z hz a b=>by rw[hlt x hx y hy]at a;rw[hlt y hy z hz]at b;rw[hlt x hx z hz];simp at *;omega,
  λx hx y hy z hz a b=>by rw[hlt x hx y hy]at a;rw[hlt y hy z hz]at b;rw[hlt x hx z hz];simp at *;omega,
  λx hx y hy a b=>by rw[hlt x hx y hy]at a;rw[hlt y hy x hx]at b;simp at a b;exact hd x hx y hy (by omega)⟩
 refine⟨r,h1,h2,?_⟩
 rw[List.pairwise_iff_getElem]at h3 ⊢
 intro i j hi hj hij
 have:=h3 i j hi hj hij
 rw[hlt _ (h2.mem_iff.1 (List.getElem_mem hj)) _ (h2.mem_iff.1 (List.getElem_mem hi))]at this
 simp at this
 omega
theorem sortF_key{α:Type}[DecidableEq α](k:α->Int)(fg:α->α->Option Int)(hg: ∀x y,fg x y=some (cmpI (k x) (k y)))(l:List α)(hs:Small l)(hd: ∀x∈l,∀y∈l,k x=k y->x=y):
 ∃r,sortF fg l=some r/\r.Perm l/\r.Pairwise λx y=>k x<=k y:=sortF_mem k fg l (λx _ y _=>hg x y) hs hd
theorem f225_eq(p q:GPlace):f225 p q=some (cmpI p.course q.course):=by unfold f225;rw[f104_eq];rfl
theorem f166_eq(p q:GStop):f166 p q=some (cmpI p.course q.course):=by unfold f166;rw[f104_eq];rfl
theorem f90_eq(l:List Int)(h:Small l):f90 l=some (sortS l):=by
 unfold f90;rw[if_pos h]
def tenN(e:Int)(pl:List GPlace)(x:GNNote×Bool):Bool:=
 !(x.2&&decide (x.1.place.fret=0)&&!(pl.any (onC x.1.place.course)))&&(!(!x.2&&pl.any (onC x.1.place.course))&&!(!x.2&&decide (0<x.1.place.fret)&&decide (15<wr (e-x.1.event))))
theorem zipAt{α β:Type}{l:List α}{m:List β}{k:Nat}{a:α}{b:β}(h1:l[k]? =some a)(h2:m[k]? =some b):(l.zip m)[k]? =some (a,b):=List.getElem?_zip_eq_some.2 ⟨h1,h2⟩
theorem f222_eq(d:GNDesk)(c:GNChoice)(unf:List GNNote)(hl:c.cut.length=unf.length)(hs:Small unf)(hp:Small c.places):f222 d c unf=some ((unf.zip c.cut).all (tenN (d.piece.events.length:Int) c.places)):=by
 have hs':unf.length<=4194304:=hs
 have key: ∃o,f222 d c unf=some o/\o=(unf.zip c.cut).all (tenN (d.piece.events.length:Int) c.places):=by
  unfold f222
  refine loopB (λk(s:Int)=>s=(k:Int)/\((unf.zip c.cut).take k).all (tenN (d.piece.events.length:Int) c.places)=true) (λo=>match o with
   |.inl _=>(unf.zip c.cut).all (tenN (d.piece.events.length:Int) c.places)=true
   |.inr b=>b=false/\(unf.zip c.cut).all (tenN (d.piece.events.length:Int) c.places)=false) unf.length hs' ⟨rfl,by simp⟩ ?_ ?_ ?_
  ·rintro k s hk ⟨rfl,hi⟩
   have e1:unf[k]? =some (unf[k]'hk):=List.getElem?_eq_getElem _
   have e2:c.cut[k]? =some (c.cut[k]'(by omega)):=List.getElem?_eq_getElem _
   generalize unf[k]'hk=n at e1
   generalize c.cut[k]'(by omega)=b at e2
   have e3:=zipAt e1 e2
   have hT:tenN (d.piece.events.length:Int) c.places (n,b)=false->(unf.zip c.cut).all (tenN (d.piece.events.length:Int) c.places)=false:=λh=>by
    rw[List.all_eq_false]
    exact⟨(n,b),List.mem_of_getElem? e3,by rw[h];simp⟩
   have hN:tenN (d.piece.events.length:Int) c.places (n,b)=true->((unf.zip c.cut).take (k+1)).all (tenN (d.piece.events.length:Int) c.places)=true:=λh=>by
    rw[take_snoc e3,List.all_append,hi]
    simp[h]
   simp only[dltLen e1,cond_true,ixNat e1,ixNat e2,Option.bind_some,wrLen hs e1,f223_eq _ _ hp]
   unfold tenN at hT hN
   simp only at hT hN
   generalize c.places.any (onC n.place.course)=t at hT hN ⊢
   generalize decide (n.place.fret=0)=z at hT hN ⊢
   generalize decide (0<n.place.fret)=z2 at hT hN ⊢
   generalize decide (15<wr ((d.piece.events.length:Int)-n.event))=z3 at hT hN ⊢
   cases b<;>cases t<;>cases z<;>cases z2<;>cases z3<;>first|exact .inl ⟨_,rfl,rfl,hN rfl⟩|exact .inr ⟨_,rfl,rfl,hT rfl⟩
  ·rintro s ⟨rfl,hi⟩
   simp only[Int.lt_irrefl,decide_false,cond_false]
   refine⟨_,rfl,?_⟩
   rw[List.take_of_length_le (by simp;omega)]at hi
   exact hi
  ·intro o ho
   cases o with
   |inl _=>exact⟨true,rfl,ho.symm⟩
   |inr b=>obtain⟨rfl,h⟩:=ho;exact⟨false,rfl,h.symm⟩
 obtain⟨o,h1,h2⟩:=key
 rw[h1,h2]
def keepF(x:GNNote×Bool):Bool:=!x.2&&decide (0<x.1.place.fret)
def keepN(unf:List GNNote)(cut:List Bool):List GNNote:=((unf.zip cut).filter keepF).map (·.1)
def downL(c:GNChoice)(unf:List GNNote):List GPlace:=(keepN unf c.cut).map (·.place)++c.places.filter λp=>decide (0<p.fret)
def openL(d:GNDesk)(c:GNChoice):List Int:=(c.places.filter λp=>!decide (0<p.fret)&&decide (0<p.course)).map (·.course)++d.chord.open_.filter λx=>!(c.places.any (onC x))
theorem f160_ex(d:GNDesk)(hd:SmallC d.chord)(c:GNChoice)(unf:List GNNote)(hl:c.cut.length=unf.length)(hs:unf.length<=100000)(hp:c.places.length<=100000)(ho:d.chord.open_.length<=100000)
  (hdist: ∀x∈downL c unf,∀y∈downL c unf,x.course=y.course->x=y):
  ∃x,f160 d c unf=some x/\(x.down.Perm (downL c unf)/\(x.down.Pairwise λp q=>p.course<=q.course)/\x.held=sortS ((keepN unf c.cut).map (·.place.course))/\x.open_=sortS (openL d c)):=by
 unfold f160
 refine loopB (λk(s:List GPlace×List Int×Int)=>s.2.2=(k:Int)/\s.1=((((unf.zip c.cut).take k).filter keepF).map (·.1)).map (·.place)/\s.2.1=((((unf.zip c.cut).take k).filter keepF).map (·.1)).map (·.place.course))
  (λr=>r.1=(keepN unf c.cut).map (·.place)/\r.2=(keepN unf c.cut).map (·.place.course)) unf.length (by omega) ⟨rfl,by simp,by simp⟩ ?_ ?_ ?_
 ·rintro k ⟨s1,s2,s3⟩ hk ⟨e0,e1,e2⟩
  simp only at e0 e1 e2
  subst e0;subst e1;subst e2
  have x1:unf[k]? =some (unf[k]'hk):=List.getElem?_eq_getElem _
  have x2:c.cut[k]? =some (c.cut[k]'(by omega)):=List.getElem?_eq_getElem _
  generalize unf[k]'hk=n at x1
  generalize c.cut[k]'(by omega)=b at x2
  have x3:=zipAt x1 x2
  have hlen:(((unf.zip c.cut).take k).filter keepF).length<=k:=by
   have:=List.length_filter_le keepF ((unf.zip c.cut).take k)
   simp only[List.length_take]at this
   omega
  have m1:((((unf.zip c.cut).take k).filter keepF).map (·.1)).length+1<=maxElems:=by simp only[List.length_map];unfold maxElems;omega
  have m2:(((((unf.zip c.cut).take k).filter keepF).map (·.1)).map λx:GNNote=>x.place).length+1<=maxElems:=by simp only[List.length_map];unfold maxElems;omega
  have m3:(((((unf.zip c.cut).take k).filter keepF).map (·.1)).map λx:GNNote=>x.place.course).length+1<=maxElems:=by simp only[List.length_map];unfold maxElems;omega
  simp only[dltLen x1,cond_true,ixNat x1,ixNat x2,Option.bind_some,wrLen (l:=unf) (by simp only[Small];omega) x1,needP m2,needP m3]
  have hf:keepF (n,b)=(!b&&decide (0<n.place.fret)):=rfl
  have ht:((unf.zip c.cut).take (k+1)).filter keepF=((unf.zip c.cut).take k).filter keepF++(bif keepF (n,b)then [(n,b)]else []):=by
   rw[take_snoc x3,List.filter_append]
   cases hq:keepF (n,b)<;>simp[hq]
  cases b
  ·simp only[Bool.not_false,cond_true,Option.bind_some]
   cases hz:decide (0<n.place.fret)
   ·simp only[cond_false,Option.bind_some]
    refine .inl ⟨_,rfl,rfl,?_,?_⟩<;>rw[ht,hf,hz]<;>simp
   ·simp only[cond_true,Option.bind_some]
    refine .inl ⟨_,rfl,rfl,?_,?_⟩<;>rw[ht,hf,hz]<;>simp
  ·simp only[Bool.not_true,cond_false,Option.bind_some]
   refine .inl ⟨_,rfl,rfl,?_,?_⟩<;>rw[ht,hf]<;>simp
 ·rintro⟨s1,s2,s3⟩ ⟨e0,e1,e2⟩
  simp only at e0 e1 e2
  subst e0;subst e1;subst e2
  simp only[Int.lt_irrefl,decide_false,cond_false]
  have ht:(unf.zip c.cut).take unf.length=unf.zip c.cut:=List.take_of_length_le (by simp;omega)
  refine⟨_,rfl,?_,?_⟩<;>rw[ht]<;>rfl
 rintro⟨D1,H1⟩ ⟨e1,e2⟩
 simp only at e1 e2
 subst e1;subst e2
 have hk1:(keepN unf c.cut).length<=100000:=by
  unfold keepN
  have:=List.length_filter_le keepF (unf.zip c.cut)
  simp only[List.length_zip,List.length_map]at this ⊢
  omega
 refine loopB (λk(s:List GPlace×List Int×Int)=>s.2.2=(k:Int)/\s.1=(keepN unf c.cut).map (·.place)++(c.places.take k).filter (λp=>decide (0<p.fret))/\s.2.1=((c.places.take k).filter λp=>!decide (0<p.fret)&&decide (0<p.course)).map (·.course))
  (λr=>r.1=downL c unf/\r.2=(c.places.filter λp=>!decide (0<p.fret)&&decide (0<p.course)).map (·.course)) c.places.length (by omega) ⟨rfl,by simp,by simp⟩ ?_ ?_ ?_
 ·rintro k ⟨s1,s2,s3⟩ hk ⟨e0,e1,e2⟩
  simp only at e0 e1 e2
  subst e0;subst e1;subst e2
  have x1:c.places[k]? =some (c.places[k]'hk):=List.getElem?_eq_getElem _
  generalize c.places[k]'hk=p at x1
  have l1:=List.length_filter_le (λp:GPlace=>decide (0<p.fret)) (c.places.take k)
  have l2:=List.length_filter_le (λp:GPlace=>!decide (0<p.fret)&&decide (0<p.course)) (c.places.take k)
  simp only[List.length_take]at l1 l2
  have m1:((keepN unf c.cut).map (λx:GNNote=>x.place)++(c.places.take k).filter (λp=>decide (0<p.fret))).length+1<=maxElems:=by simp only[List.length_append,List.length_map];unfold maxElems;omega
  have m2:(((c.places.take k).filter λp=>!decide (0<p.fret)&&decide (0<p.course)).map (λx:GPlace=>x.course)).length+1<=maxElems:=by simp only[List.length_map];unfold maxElems;omega
  simp only[dltLen x1,cond_true,ixNat x1,Option.bind_some,wrLen (l:=c.places) (by simp only[Small];omega) x1,needP m1,needP m2]
  have ht1:(c.places.take (k+1)).filter (λp=>decide (0<p.fret))=(c.places.take k).filter (λp=>decide (0<p.fret))++(bif decide (0<p.fret)then [p]else []):=by
   rw[take_snoc x1,List.filter_append]
   cases hq:decide (0<p.fret)<;>simp at hq<;>simp[hq]
  have ht2:(c.places.take (k+1)).filter (λp=>!decide (0<p.fret)&&decide (0<p.course))=(c.places.take k).filter (λp=>!decide (0<p.fret)&&decide (0<p.course))++(bif (!decide (0<p.fret)&&decide (0<p.course))then [p]else []):=by
   rw[take_snoc x1,List.filter_append]
   cases hq:(!decide (0<p.fret)&&decide (0<p.course))<;>simp[List.filter_cons,hq]
  cases hz:decide (0<p.fret)
  ·cases hz2:decide (0<p.course)
   ·simp only[cond_false,Option.bind_some]
    refine .inl ⟨_,rfl,rfl,?_,?_⟩
    ·show _=_++List.filter _ (List.take (k+1) _);rw[ht1,hz];simp
    ·show _=List.map _ (List.filter _ (List.take (k+1) _));rw[ht2,hz,hz2];simp
   ·simp only[cond_false,cond_true,Option.bind_some]
    refine .inl ⟨_,rfl,rfl,?_,?_⟩
    ·show _=_++List.filter _ (List.take (k+1) _);rw[ht1,hz];simp
    ·show _=List.map _ (List.filter _ (List.take (k+1) _));rw[ht2,hz,hz2];simp
  ·simp only[cond_true,Option.bind_some]
   refine .inl ⟨_,rfl,rfl,?_,?_⟩
   ·show _=_++List.filter _ (List.take (k+1) _);rw[ht1,hz];simp
   ·show _=List.map _ (List.filter _ (List.take (k+1) _));rw[ht2,hz];simp
 ·rintro⟨s1,s2,s3⟩ ⟨e0,e1,e2⟩
  simp only at e0 e1 e2
  subst e0;subst e1;subst e2
  simp only[Int.lt_irrefl,decide_false,cond_false]
  refine⟨_,rfl,?_,?_⟩<;>rw[List.take_length]<;>rfl
 rintro⟨D2,O2⟩ ⟨e1,e2⟩
 simp only at e1 e2
 subst e1;subst e2
 have l2:=List.length_filter_le (λp:GPlace=>!decide (0<p.fret)&&decide (0<p.course)) c.places
 refine loopB (λk(s:List Int×Int)=>s.2=(k:Int)/\s.1=(c.places.filter λp=>!decide (0<p.fret)&&decide (0<p.course)).map (·.course)++(d.chord.open_.take k).filter λx=>!(c.places.any (onC x))) (λr=>r=openL d c) d.chord.open_.length (by omega) ⟨rfl,by simp⟩ ?_ ?_ ?_
 ·rintro k ⟨s1,s2⟩ hk ⟨e0,e1⟩
  simp only at e0 e1
  subst e0;subst e1
  have x1:d.chord.open_[k]? =some (d.chord.open_[k]'hk):=List.getElem?_eq_getElem _
  generalize d.chord.open_[k]'hk=x at x1
  have l3:=List.length_filter_le (λx:Int=>!(c.places.any (onC x))) (d.chord.open_.take k)
  simp only[List.length_take]at l3
  have m1:((c.places.filter λp=>!decide (0<p.fret)&&decide (0<p.course)).map (λx:GPlace=>x.course)++(d.chord.open_.take k).filter λx=>!(c.places.any (onC x))).length+1<=maxElems:=by
   simp only[List.length_append,List.length_map];unfold maxElems;omega
  simp only[dltLen x1,cond_true,ixNat x1,Option.bind_some,wrLen (l:=d.chord.open_) (by simp only[Small];omega) x1,f223_eq c.places x (by simp only[Small];omega),needP m1]
  have ht:(d.chord.open_.take (k+1)).filter (λx=>!(c.places.any (onC x)))=(d.chord.open_.take k).filter (λx=>!(c.places.any (onC x)))++(bif !(c.places.any (onC x))then [x]else []):=by
   rw[take_snoc x1,List.filter_append]
   cases hq:(!(c.places.any (onC x)))<;>simp[List.filter_cons,hq]
  cases hz:c.places.any (onC x)
  ·refine .inl ⟨_,rfl,rfl,?_⟩
   show _=_++List.filter _ (List.take (k+1) _);rw[ht,hz];simp
  ·refine .inl ⟨_,rfl,rfl,?_⟩
   show _=_++List.filter _ (List.take (k+1) _);rw[ht,hz];simp
 ·rintro⟨s1,s2⟩ ⟨e0,e1⟩
  simp only at e0 e1
  subst e0;subst e1
  simp only[Int.lt_irrefl,decide_false,cond_false]
  refine⟨_,rfl,?_⟩
  rw[List.take_length];rfl
 rintro O3 rfl
 have hD:(downL c unf).length<=300000:=by
  unfold downL
  have:=List.length_filter_le (λp:GPlace=>decide (0<p.fret)) c.places
  simp only[List.length_append,List.length_map];omega
 have hO:(openL d c).length<=300000:=by
  unfold openL
  have:=List.length_filter_le (λx:Int=>!(c.places.any (onC x))) d.chord.open_
  simp only[List.length_append,List.length_map];omega
 obtain⟨r,h1,h2,h3⟩:=sortF_key GPlace.course f225 f225_eq (downL c unf) (by simp only[Small];omega) hdist
 have s1:Small ((keepN unf c.cut).map λx:GNNote=>x.place.course):=by simp only[Small,List.length_map];omega
 have s2:Small (openL d c):=by simp only[Small];omega
 have l4:=sortS_len ((keepN unf c.cut).map λx:GNNote=>x.place.course)
 have l5:=sortS_len (openL d c)
 unfold f224
 simp only[h1,Option.bind_some,needP h2.length_eq,f90_eq _ s1,needP l4,f90_eq _ s2,needP l5]
 exact⟨_,rfl,h2,h3,rfl,rfl⟩
end Go.Proofs.YtpbahncblggodaaGreat
set_option linter.all false
namespace Go.Proofs.YtpbahncblggodaaGreat
open Go Go.Am Go.Sort
set_option maxRecDepth 100000
theorem f221_eq(l:List Bool)(h:Small l):f221 l=some l:=by
 unfold f221
 by_cases c:l=[]
 ·subst c;simp
 ·have:l.length<=maxElems:=by simp only[Small]at h;unfold maxElems;omega
  rw[show l.isEmpty=false from by simpa using c];simp[needP this]
structure Tried (d:GNDesk) (unf:List GNNote) (c:GNChoice) (x:GChord) (g:List GGrip):Prop where
 ten:(unf.zip c.cut).all (tenN (d.piece.events.length:Int) c.places)=true
 cho:f160 d c unf=some x
 rea:f161 d x=some g
structure TryOk (d:GNDesk) (unf:List GNNote) (c:GNChoice):Prop where
 cut:c.cut.length=unf.length
 pl:c.places.length<=100000
 dist:(unf.zip c.cut).all (tenN (d.piece.events.length:Int) c.places)=true-> ∀x∈downL c unf,∀y∈downL c unf,x.course=y.course->x=y
theorem f160_small(d:GNDesk)(c:GNChoice)(unf:List GNNote)(hs:unf.length<=100000)(hp:c.places.length<=100000)(ho:d.chord.open_.length<=100000){x:GChord}
  (h:x.down.Perm (downL c unf)/\(x.down.Pairwise λp q=>p.course<=q.course)/\x.held=sortS ((keepN unf c.cut).map (·.place.course))/\x.open_=sortS (openL d c)):SmallC x:=by
 have hk1:(keepN unf c.cut).length<=100000:=by
  unfold keepN
  have:=List.length_filter_le keepF (unf.zip c.cut)
  simp only[List.length_zip,List.length_map]at this ⊢
  omega
 obtain⟨h1,_,h3,h4⟩:=h
 refine⟨?_,?_,?_⟩
 ·have:=h1.length_eq
  unfold downL at this
  have l1:=List.length_filter_le (λp:GPlace=>decide (0<p.fret)) c.places
  simp only[List.length_append,List.length_map]at this
  simp only[Small];omega
 ·simp only[Small,h3,sortS_len,List.length_map];omega
 ·have l1:=List.length_filter_le (λx:Int=>!(c.places.any (onC x))) d.chord.open_
  have l2:=List.length_filter_le (λp:GPlace=>!decide (0<p.fret)&&decide (0<p.course)) c.places
  simp only[Small,h4,sortS_len,openL,List.length_append,List.length_map];omega
theorem srch1_ex {R : Type} (B : List Bool → Option (R ⊕ Unit)) (F : List Bool → R → Prop) (N : List Bool → Prop) : ∀ L : List (List Bool), (∀ l ∈ L, ∃ o, B l = some o ∧ (match o with | .inl r => F l r | .inr _ => N l)) →
    ∃ o, srch1 B L = some o ∧ (match o with | .inl r => ∃ l ∈ L, F l r | .inr _ => ∀ l ∈ L, N l)
  | [], _ => ⟨_, rfl, by simp⟩
  | l :: L, h => by
    obtain ⟨o, h1, h2⟩ := h l (by simp)
    simp only [srch1, h1]
    cases o with
    | inl r => exact ⟨_, rfl, l, by simp, h2⟩
    | inr _ =>
      obtain ⟨o, h3, h4⟩ := srch1_ex B F N L fun l hl => h l (by simp [hl])
      refine ⟨o, h3, ?_⟩
      cases o with
      | inl r => obtain ⟨l', a, b⟩ := h4; exact ⟨l', by simp [a], b⟩
      | inr _ => intro l' hl'; simp at hl'; rcases hl' with rfl | hl'
                 · exact h2
                 · exact h4 l' hl'
theorem comps_len: ∀(k m:Nat)l,l∈comps k m->l.length=k
 |0,0,l,h=>by simp[comps]at h;subst h;rfl
 |0,m+1,l,h=>by simp[comps]at h
 |k+1,0,l,h=>by
  simp[comps]at h
  obtain⟨x,h1,rfl⟩:=h
  simp[comps_len k 0 x h1]
 |k+1,m+1,l,h=>by
  simp[comps]at h
  rcases h with⟨x,h1,rfl⟩|⟨x,h1,rfl⟩
  ·simp[comps_len k (m+1) x h1]
  ·simp[comps_len k m x h1]
theorem flagsM_len{n:Nat}{l:List Bool}(h:l∈flagsM n):l.length=n:=by
 unfold flagsM at h
 obtain⟨m,_,h2⟩:=List.mem_flatMap.1 h
 exact comps_len n m l h2
theorem srch_ex{R:Type}(B:List Bool->Option (Unit⊕(R⊕Unit)))(F:List Bool->R->Prop)(N S:List Bool->Prop): ∀L:List (List Bool),(∀l∈L,∃o,B l=some o/\(match o with|.inl _=>S l|.inr (.inl r)=>F l r|.inr (.inr _)=>N l))->
  ∃o,srch B L=some o/\(match o with
   |.inl _=> ∃a l b,L=a++l::b/\S l/\ ∀x∈a,N x
   |.inr (.inl r)=> ∃l∈L,F l r
   |.inr (.inr _)=> ∀l∈L,N l)
 | [],_=>⟨_,rfl,by simp⟩
 |l::L,h=>by
  obtain⟨o,h1,h2⟩:=h l (by simp)
  simp only[srch,h1]
  rcases o with u|r|u
  ·exact⟨_,rfl,[],l,L,rfl,h2,by simp⟩
  ·exact⟨_,rfl,l,by simp,h2⟩
  ·obtain⟨o,h3,h4⟩:=srch_ex B F N S L λl hl=>h l (by simp[hl])
   refine⟨o,h3,?_⟩
   rcases o with u|r|u
   ·obtain⟨a,x,b,k1,k2,k3⟩:=h4
    refine⟨l::a,x,b,by rw[k1];rfl,k2,λy hy=>?_⟩
    simp at hy
    rcases hy with rfl|hy
    ·exact h2
    ·exact k3 y hy
   ·obtain⟨l',a,b⟩:=h4;exact⟨l',by simp[a],b⟩
   ·intro l' hl';simp at hl';rcases hl' with rfl|hl'
    ·exact h2
    ·exact h4 l' hl'
section
variable (d:GNDesk) (hd:DeskH d) (unf:List GNNote) (hu:unf.length<=100000) (ho:d.chord.open_.length<=100000) (e6:GNChoice) (e7:GChord) (e8:List GGrip) (e9:Bool) (fresh:List GNNote)
include hd hu ho
theorem f350_ex(c:GNChoice)(hc:TryOk d unf c)(ht:(unf.zip c.cut).all (tenN (d.piece.events.length:Int) c.places)=true): ∃o,f350 d unf e6 e7 e8 e9 fresh unf c=some o/\(match o with
  |.inl r=>Tried d unf c r.2 r.1/\r.1≠[]
  |.inr _=> ∃x,Tried d unf c x []):=by
 unfold f350
 obtain⟨x,h1,h2⟩:=f160_ex d hd.ch c unf hc.cut hu hc.pl ho (hc.dist ht)
 obtain⟨g,h3,_⟩:=f161_ex d hd x (f160_small d c unf hu hc.pl ho h2)
 simp only[h1,Option.bind_some,h3]
 by_cases hg:g=[]
 ·subst hg
  exact⟨_,rfl,x,ht,h1,h3⟩
 ·have c1:(0:Int)<(g.length:Int):=by
   have:=List.length_pos_iff.2 hg;omega
  simp only[c1,decide_true,cond_true]
  exact⟨_,rfl,⟨ht,h1,h3⟩,hg⟩
theorem f349_ex(al:List (List GPlace))(hal:Small al)(cut:List Bool)(hcut:cut.length=unf.length)(hc: ∀pl∈al,TryOk d unf ⟨pl,cut⟩)(e0 e31:Int): ∃o,f349 fresh d unf unf e6 e7 e8 e9 al e0 e31 cut=some o/\(match o with
  |.inl r=>r.2.2.places∈al/\r.2.2.cut=cut/\Tried d unf r.2.2 r.2.1 r.1/\r.1≠[]
  |.inr _=> ∀pl∈al,(unf.zip cut).all (tenN (d.piece.events.length:Int) pl)=true-> ∃x,Tried d unf ⟨pl,cut⟩ x []):=by
 have hal':al.length<=4194304:=hal
 unfold f349
 refine loopB (λk(s:Int)=>s=(k:Int)/\ ∀pl∈al.take k,(unf.zip cut).all (tenN (d.piece.events.length:Int) pl)=true-> ∃x,Tried d unf ⟨pl,cut⟩ x []) (λo=>match o with
  |.inl _=> ∀pl∈al,(unf.zip cut).all (tenN (d.piece.events.length:Int) pl)=true-> ∃x,Tried d unf ⟨pl,cut⟩ x []
  |.inr (.inl r)=>r.2.2.places∈al/\r.2.2.cut=cut/\Tried d unf r.2.2 r.2.1 r.1/\r.1≠[]
  |.inr (.inr _)=>False) al.length hal' ⟨rfl,by simp⟩ ?_ ?_ ?_
 ·rintro k s hk ⟨rfl,hi⟩
  have e1:al[k]? =some (al[k]'hk):=List.getElem?_eq_getElem _
  generalize al[k]'hk=pl at e1
  have hm:=List.mem_of_getElem? e1
  have hok:=hc pl hm
  have hpl:=hok.pl
  simp only at hpl
  simp only[dltLen e1,cond_true,ixNat e1,Option.bind_some,wrLen hal e1,f221_eq cut (by simp only[Small];omega),f222_eq d ⟨pl,cut⟩ unf hcut (by simp only[Small];omega) (by simp only[Small];omega)]
  cases ht:(unf.zip cut).all (tenN (d.piece.events.length:Int) pl)
  ·refine .inl ⟨_,rfl,rfl,λp hp h=>?_⟩
   rw[take_snoc e1,List.mem_append]at hp
   rcases hp with hp|hp
   ·exact hi p hp h
   ·simp at hp;subst hp
    rw[ht]at h;cases h
  ·obtain⟨o,h1,h2⟩:=f350_ex d hd unf hu ho e6 e7 e8 e9 fresh ⟨pl,cut⟩ hok ht
   simp only[cond_true,h1,Option.bind_some]
   cases o with
   |inl r=>exact .inr ⟨_,rfl,hm,rfl,h2.1,h2.2⟩
   |inr _=>
    refine .inl ⟨_,rfl,rfl,λp hp h=>?_⟩
    rw[take_snoc e1,List.mem_append]at hp
    rcases hp with hp|hp
    ·exact hi p hp h
    ·simp at hp;subst hp
     exact h2
 ·rintro s ⟨rfl,hi⟩
  simp only[Int.lt_irrefl,decide_false,cond_false]
  exact⟨_,rfl,λp hp=>hi p (by simpa using hp)⟩
 ·intro o h
  rcases o with u|r|u
  ·exact⟨_,rfl,h⟩
  ·exact⟨_,rfl,h⟩
  ·exact h.elim
theorem f348_ex(drop:List Bool)(hfl:fresh.length<=4000)(hdl:drop.length=fresh.length)(hun:unf.length<=4194303)(e0:Int)(al:List (List GPlace))(hal:f220 d.in_ fresh drop d.shift=some al)(hsm:Small al)(hc: ∀cut,cut.length=unf.length-> ∀pl∈al,TryOk d unf ⟨pl,cut⟩):
  ∃o,f348 fresh d unf unf e6 e7 e8 e9 e0 drop=some o/\(match o with
  |.inl _=>drop.all (λb=>b)=true
  |.inr (.inl r)=>(drop.all λb=>b)=false/\r.2.2.places∈al/\r.2.2.cut.length=unf.length/\Tried d unf r.2.2 r.2.1 r.1/\r.1≠[]
  |.inr (.inr _)=> ∀pl∈al,∀cut∈flagsM unf.length,(unf.zip cut).all (tenN (d.piece.events.length:Int) pl)=true-> ∃x,Tried d unf ⟨pl,cut⟩ x []):=by
 have hD:f69 drop false=some (drop.any λb=>!b):=by
  unfold f69 f134
  rw[loop_find drop (λb=>!b) (λi _=>(i:Int)) (by simp only[Small];omega)]
  ·simp only[Option.bind_some,findS_idx]
   rw[<-idxF_nonneg]
   unfold idxF
   cases drop.findIdx? _<;>simp
  ·intro i y hy
   simp only[dltLen hy,cond_true,ixNat hy,Option.bind_some]
   cases y<;>rfl
  ·simp
 unfold f348
 simp only[hD,Option.bind_some]
 cases hz:drop.any λb=>!b
 ·refine⟨_,rfl,?_⟩
  simp only[List.any_eq_false,List.all_eq_true]at hz ⊢
  intro b hb
  have:=hz b hb
  simpa using this
 ·simp only[Bool.not_true,cond_false,hal,Option.bind_some,f219]
  obtain⟨o,h1,h2⟩:=srch1_ex (f349 fresh d unf unf e6 e7 e8 e9 al e0 (unf.length:Int)) (λl r=>r.2.2.places∈al/\r.2.2.cut=l/\Tried d unf r.2.2 r.2.1 r.1/\r.1≠[])
   (λl=> ∀pl∈al,(unf.zip l).all (tenN (d.piece.events.length:Int) pl)=true-> ∃x,Tried d unf ⟨pl,l⟩ x []) (flagsM unf.length) λl hl=>by
    have hll:=flagsM_len hl
    obtain⟨o,a1,a2⟩:=f349_ex d hd unf hu ho e6 e7 e8 e9 fresh al hsm l hll (hc l hll) e0 (unf.length:Int)
    refine⟨o,a1,?_⟩
    rcases o with r|u
    ·exact a2
    ·exact a2
  have h3:=f265_1_eq fresh d unf unf e6 e7 e8 e9 al e0 unf.length hun o h1
  simp only[h3,Option.bind_some]
  cases o with
  |inl r=>
   obtain⟨l,k1,k2,k3,k4⟩:=h2
   refine⟨_,rfl,?_,k2,by rw[k3];exact flagsM_len k1,k4⟩
   rw[List.all_eq_false]
   obtain⟨b,hb,hn⟩:=List.any_eq_true.1 hz
   exact⟨b,hb,by simpa using hn⟩
  |inr _=>exact⟨_,rfl,λpl hp cut hcut=>h2 cut hcut pl hp⟩
end
theorem f98_ex(d:GNDesk)(hd:DeskH d)(fresh unf:List GNNote)(hu:unf.length<=100000)(ho:d.chord.open_.length<=100000)(hfl:fresh.length<=4000)(al:List Bool->List (List GPlace))
  (hal: ∀drop,drop.length=fresh.length->f220 d.in_ fresh drop d.shift=some (al drop)/\Small (al drop)/\ ∀cut,cut.length=unf.length-> ∀pl∈al drop,TryOk d unf ⟨pl,cut⟩):
  ∃r,f98 d fresh unf=some r/\(if r.2.2.2 then(∃drop∈flagsM fresh.length,(drop.all λb=>b)=false/\r.1.places∈al drop)/\r.1.cut.length=unf.length/\Tried d unf r.1 r.2.1 r.2.2.1/\r.2.2.1≠[]
   else(∃a l b,flagsM fresh.length=a++l::b/\(l.all λb=>b)=true/\ ∀drop∈a,∀pl∈al drop,∀cut∈flagsM unf.length,(unf.zip cut).all (tenN (d.piece.events.length:Int) pl)=true-> ∃x,Tried d unf ⟨pl,cut⟩ x [])\/
    ∀drop∈flagsM fresh.length,∀pl∈al drop,∀cut∈flagsM unf.length,(unf.zip cut).all (tenN (d.piece.events.length:Int) pl)=true-> ∃x,Tried d unf ⟨pl,cut⟩ x []):=by
 obtain⟨o,h1,h2⟩:=srch_ex (f348 fresh d unf unf ⟨[],[]⟩ ⟨[],[],[]⟩ [] false (fresh.length:Int)) (λl r=>(l.all λb=>b)=false/\r.2.2.places∈al l/\r.2.2.cut.length=unf.length/\Tried d unf r.2.2 r.2.1 r.1/\r.1≠[])
  (λl=> ∀pl∈al l,∀cut∈flagsM unf.length,(unf.zip cut).all (tenN (d.piece.events.length:Int) pl)=true-> ∃x,Tried d unf ⟨pl,cut⟩ x []) (λl=>(l.all λb=>b)=true) (flagsM fresh.length) λl hl=>by
   have hll:=flagsM_len hl
   obtain⟨k1,k2,k3⟩:=hal l hll
   obtain⟨o,a1,a2⟩:=f348_ex d hd unf hu ho ⟨[],[]⟩ ⟨[],[],[]⟩ [] false fresh l hfl hll (by omega) (fresh.length:Int) (al l) k1 k2 k3
   refine⟨o,a1,?_⟩
   rcases o with u|r|u
   ·exact a2
   ·exact a2
   ·exact a2
 have h3:=f265_eq fresh d unf unf ⟨[],[]⟩ ⟨[],[],[]⟩ [] false fresh.length (by omega) o h1
 unfold f98 f218
 simp only[f219,f159,Option.bind_some,h3]
 rcases o with u|r|u
 ·rw[loop_out (r:=((⟨[],[]⟩:GNChoice),(⟨[],[],[]⟩:GChord),([]:List GGrip),false)) rfl _ (by unfold FUEL;omega)]
  exact⟨_,rfl,.inl h2⟩
 ·obtain⟨l,k1,k2⟩:=h2
  rw[loop_out (r:=(r.2.2,r.2.1,r.1,true)) rfl _ (by unfold FUEL;omega)]
  exact⟨_,rfl,⟨l,k1,k2.1,k2.2.1⟩,k2.2.2⟩
 ·rw[loop_out (r:=((⟨[],[]⟩:GNChoice),(⟨[],[],[]⟩:GChord),([]:List GGrip),false)) rfl _ (by unfold FUEL;omega)]
  exact⟨_,rfl,.inr h2⟩
end Go.Proofs.YtpbahncblggodaaGreat
