/- The logic AM, Y: walks on typed states: functions, ways that meet, loops. -/
import Derived.Test.YtfdnjgoegamonaaGreatDoorAmF
set_option linter.all false
namespace Go.Am
open Go.RowKit
abbrev jh:=List (AV×AV)
def sI(a b:Option jh):Option jh:=match a with
 |some x=>match b with
  |some y=>some (x++y)
  |none=>none
 |none=>none
theorem gv{a b:Option jh}{q:jh}(h:sI a b=some q)(hq: ∀p∈q,p.1=p.2):(∃x,a=some x/\ ∀p∈x,p.1=p.2)/\ ∃y,b=some y/\ ∀p∈y,p.1=p.2:=by
 unfold sI at h;split at h
 ·split at h
  ·cases h;exact⟨⟨_,rfl,λp hp=>hq p (DQ _ hp)⟩,_,rfl,λp hp=>hq p (Ga _ hp)⟩
  ·cases h
 ·cases h
section
variable {S:Nat->Type}
mutual
def TV.cl:TV S->Bool
 |.a x=>x.dI
 |.i _ _=>true
 |.b _=>true
 |.z _=>true
 |.v _ _=>true
 |.l _ _ _=>true
 |.s _ cs=>DW cs
 |.agg cs=>DW cs
 |.eC cs=>DW cs
 |.ip cs=>DW cs
 |.fn _ cs=>DW cs
 |.pt _ _ _=>false
def DW:List (TV S)->Bool
 | []=>true
 |x::r=>x.cl&&DW r
end
end
section
variable {B:jg}
theorem lG(c:Nat)(x:List (B.S c)):fj (x.map (B.E c))=true:=eJ.2 λy hy=>by
 obtain⟨z,_,rfl⟩:=kl.1 hy;exact B.hc c z
mutual
theorem BL: ∀{x:TV B.S},x.cl=true->(x.er B.E).dI=true
 |.a x,h=>h
 |.i _ _,_=>rfl
 |.b _,_=>rfl
 |.z _,_=>rfl
 |.v c x,_=>B.hc c x
 |.l _ c x,_=>lG c x
 |.s _ cs,h=>og (l:=cs) h
 |.agg cs,h=>og (l:=cs) h
 |.eC cs,h=>og (l:=cs) h
 |.ip cs,h=>og (l:=cs) h
 |.fn _ cs,h=>og (l:=cs) h
 |.pt _ _ _,h=>by cases h
theorem og: ∀{l:List (TV B.S)},DW l=true->fj (eB B.E l)=true
 | [],_=>rfl
 |x::r,h=>by
  simp only[DW,fE]at h;simp only[eB,fj,fE];exact⟨BL h.1,og h.2⟩
end
end
section
variable (B:jg)
def TF(x:TV B.S):Option (List AV):=match x.norm B with
 |.l _ c y=>some (y.map (B.E c))
 |.s _ cs=>some (eB B.E cs)
 |.a (.sl _ l)=>some l
 |_=>none
def coA(ok:Nat->Bool)(π:Nat->Nat)(x y:AV):Option jh:=match x with
 |.mp id e o=>(match y with
  |.mp fL e' o'=>bif ok id&&Nat.beq (π id) fL then some [(.mp 0 e o,.mp 0 e' o')]else none
  |_=>none)
 |.ms id a b=>(match y with
  |.ms fL a' b'=>bif ok id&&Nat.beq (π id) fL then some [(.mp 0 a b,.mp 0 a' b')]else none
  |.sl true []=>some [(.mp 0 0 b,.mp 0 0 0)]
  |_=>none)
 |.lf id=>(match y with
  |.lf fL=>bif ok id&&Nat.beq (π id) fL then some []else none
  |_=>none)
 |x=>bif x.dI then some [(x,y)]else none
def C1{S:Nat->Type}:TV S->Option (Nat×Nat×Nat)
 |.pt id a b=>some (id,a,b)
 |.a (.ms id a b)=>some (id,a,b)
 |_=>none
def tq{S:Nat->Type}:TV S->Bool
 |.a (.ms _ a _)=>Nat.beq a 0
 |_=>false
def Nb(b b':Nat)(x y:Option (TB B.S)):Option jh:=match x with
 |some (.ls _ c x n _)=>(match y with
  |some (.ls _ c' x' n' _)=>some [(.mp 0 0 b,.mp 0 0 n),(.mp 0 0 b',.mp 0 0 n'),(.sl false (x.map (B.E c)),.sl false (x'.map (B.E c')))]
  |some (.cW _ l)=>some [(.mp 0 0 b,.mp 0 0 n),(.mp 0 0 b',.mp 0 0 l.length),(.sl false (x.map (B.E c)),.sl false (eB B.E l))]
  |_=>none)
 |_=>none
abbrev Pg(S:Nat->Type):=List (Nat×TB S)×List (Nat×TB S)
def TG(hp:Pg B.S)(ok:Nat->Bool)(π:Nat->Nat)(w:Bool)(id a b:Nat)(y:TV B.S):Option jh:=match C1 y with
 |some (fL,a',b')=>bif ok id&&Nat.beq (π id) fL then(match(bif w&&tq y then Nb B b b' (bJ hp.1 id) (bJ hp.2 fL)else none)with
   |some q=>some q
   |none=>some [(.mp 0 a b,.mp 0 a' b')])else none
 |none=>match y with
  |.a (.sl true [])=>some [(.mp 0 0 b,.mp 0 0 0)]
  |_=>none
def Lt{S:Nat->Type}(f:TV S->TV S->Option jh):List (TV S)->List (TV S)->Option jh
 | [],[]=>some []
 |x::r,y::l=>sI (f x y) (Lt f r l)
 |_,_=>none
def C2{S:Nat->Type}(cs:List (TV S)):Bool:=cs.any λx=>match x with
 |.a (.sl true [])=>true
 |_=>false
def aL(S:Nat->Type):List AV->List (TV S)
 | []=>[]
 |x::r=>.a x::aL S r
theorem Nc: ∀{l:List AV},eB B.E (aL B.S l)=l
 | []=>rfl
 |x::r=>by simp only[aL,eB,TV.er,Nc (l:=r)]
def Hn(hp:Pg B.S)(ok:Nat->Bool)(π:Nat->Nat):Nat->TV B.S->TV B.S->Option jh
 |0,_,_=>none
 |n+1,x,y=>match C1 x with
  |some (id,a,b)=>TG B hp ok π (tq x) id a b y
  |none=>match x with
   |.a x=>(match y with
    |.a y=>coA ok π x y
    |y=>bif x.dI then some [(x,y.er B.E)]else none)
   |.l false c x=>(match TF B y with
    |some l=>some [(.sl false (x.map (B.E c)),.sl false l)]
    |none=>none)
   |.fn g cs=>(match y with
    |.fn g' cs'=>bif Nat.beq g g' then Lt (Hn hp ok π n) cs cs' else none
    |_=>none)
   |.eC cs=>(match y with
    |.eC cs'=>Lt (Hn hp ok π n) cs cs'
    |_=>none)
   |.agg cs=>(match y with
    |.agg cs'=>Lt (Hn hp ok π n) cs cs'
    |.a (.agg l)=>bif DW cs then some [(.agg (eB B.E cs),.agg l)]else Lt (Hn hp ok π n) cs (aL B.S l)
    |y=>bif DW cs then some [(.agg (eB B.E cs),y.er B.E)]else none)
   |.v c x=>(match y with
    |.agg cs'=>bif C2 cs' then Hn hp ok π n (B.X c x) (.agg cs')else some [(B.E c x,.agg (eB B.E cs'))]
    |.a (.agg l)=>bif C2 (aL B.S l)then Hn hp ok π n (B.X c x) (.agg (aL B.S l))else some [(B.E c x,.agg l)]
    |y=>some [(B.E c x,y.er B.E)])
   |x=>bif x.cl then some [(x.er B.E,y.er B.E)]else none
def Qn(a b:Option (Option Nat)):Bool:=match a with
 |none=>(match b with
  |none=>true
  |_=>false)
 |some none=>(match b with
  |some none=>true
  |_=>false)
 |some (some i)=>(match b with
  |some (some j)=>Nat.beq i j
  |_=>false)
theorem Qo{a b:Option (Option Nat)}(h:Qn a b=true):a=b:=by
 unfold Qn at h;split at h<;>split at h<;>first|rfl|(cases h;done)|rw[jn h]
def Nf{S:Nat->Type}:List (Nat×TV S)->List (Nat×TV S)->Bool
 | [],[]=>true
 |(i,_)::r,(j,_)::l=>Nat.beq i j&&Nf r l
 |_,_=>false
def Ho{S:Nat->Type}:List (Nat×TV S)->List (TV S)
 | []=>[]
 |(_,x)::r=>x::Ho r
def Kx{S:Nat->Type}:List (Nat×TV S)->List Nat
 | []=>[]
 |(i,_)::r=>i::Kx r
theorem IW{S:Nat->Type}: ∀{a b:List (Nat×TV S)},Nf a b=true->Kx a=Kx b
 | [],[],_=>rfl
 |(i,_)::r,(j,_)::l,h=>by
  simp only[Nf,fE]at h;simp only[Kx,jn h.1,IW h.2]
 | [],_::_,h=>by cases h
 |_::_,[],h=>by cases h
theorem IX: ∀{bX:List (Nat×TV B.S)},eY B bX=AX (Kx bX) (eB B.E (Ho bX))
 | []=>rfl
 |(i,x)::r=>by simp only[eY,Kx,Ho,eB,AX,IX (bX:=r)]
def zo(hp:Pg B.S)(ok:Nat->Bool)(π:Nat->Nat)(b b':TB B.S):Option jh:=match b with
 |.cW n l=>(match b' with
  |.cW n' l'=>bif Nat.beq n n' then Lt (Hn B hp ok π 4) l l' else none
  |.ls n' c x _ _=>bif Nat.beq n n'&&DW l then some [(.sl false (eB B.E l),.sl false (x.map (B.E c)))]else none
  |_=>none)
 |.ls n c x _ _=>(match b' with
  |.cW n' l'=>bif Nat.beq n n' then some [(.sl false (x.map (B.E c)),.sl false (eB B.E l'))]else none
  |.ls n' c' x' _ _=>bif Nat.beq n n' then some [(.sl false (x.map (B.E c)),.sl false (x'.map (B.E c')))]else none
  |_=>none)
 |.raw b=>(match b with
  |.gK=>(match b' with
   |.raw .gK=>some []
   |_=>none)
  |_=>none)
 |.lp c bX st pd=>(match b' with
  |.lp c' env' AK pd'=>bif Nat.beq c c'&&Nat.beq st AK&&Qn pd pd'&&Nf bX env' then Lt (Hn B hp ok π 4) (Ho bX) (Ho env')else none
  |_=>none)
 |.rows n c x v k=>(match b' with
  |.rows n' c' x' v' k'=>bif Nat.beq n n' then sI (some [(.agg [.sl false (x.map (B.E c)),.mp k 0 0],.agg [.sl false (x'.map (B.E c')),.mp k' 0 0])]) (Lt (Hn B hp ok π 4) v v')else none
  |_=>none)
 |.fm n c w cl pre lh post=>(match b' with
  |.fm n' c' w' TH Ng Nh EK=>bif Nat.beq n n'&&Nat.beq c c'&&Nat.beq (π w) w'&&(cl==TH)&&Nat.blt 0 (B.K c)then(match bJ hp.1 w with
    |some (.fr c2 W3 W4 n2 RM)=>bif Nat.beq c2 c&&(W3==cl)&&Nat.beq n2 lh.length then sI (some [(.agg [.sl false (pre.map (B.E c)),.sl false (post.map (B.E c)),.sl false (pre.map (B.E c)),.sl false (post.map (B.E c))],.agg [.sl false (Ng.map (B.E c')),.sl false (EK.map (B.E c')),.sl false (W4.map (B.E c2)),.sl false (RM.map (B.E c2))])]) (Lt (Hn B hp ok π 4) lh Nh)else none
    |_=>none)else none
  |.ls n' c' x' _ _=>(match pre with
   | []=>(match lh with
    | []=>(match post with
     | []=>bif Nat.beq n n' then some [(.sl false [],.sl false (x'.map (B.E c')))]else none
     |_=>none)
    |_=>none)
   |_=>none)
  |_=>none)
 |.fr c cl pre n post=>(match b' with
  |.fr c' TH Ng n' EK=>bif Nat.beq c c'&&(cl==TH)&&Nat.beq n n'&&Nat.blt 0 (B.K c)then some [(.agg [.sl false (pre.map (B.E c)),.sl false (post.map (B.E c))],.agg [.sl false (Ng.map (B.E c')),.sl false (EK.map (B.E c'))])]else none
  |_=>none)
def YT(b:TB B.S):Option jh:=match b with
 |.cW n l=>bif Nat.blt 0 n then some [(.sl false (eB B.E l),.sl false [])]else none
 |.ls n c x _ _=>bif Nat.blt 0 n then some [(.sl false (x.map (B.E c)),.sl false [])]else none
 |.raw _=>none
 |.lp _ _ _ _=>none
 |.rows _ _ _ _ _=>none
 |.fm n _ _ _ pre lh post=>(match pre with
  | []=>(match lh with
   | []=>(match post with
    | []=>bif Nat.blt 0 n then some []else none
    |_=>none)
   |_=>none)
  |_=>none)
 |.fr _ _ pre _ post=>(match pre with
  | []=>(match post with
   | []=>some []
   |_=>none)
  |_=>none)
def TI(hp:Pg B.S)(ok:Nat->Bool)(π:Nat->Nat)(bX:dU B.S):dU B.S->Option jh
 | []=>some []
 |(t,x)::r=>sI (match bJ bX t with
  |some y=>Hn B hp ok π 4 x y
  |none=>none) (TI hp ok π bX r)
def Ni(hp:Pg B.S)(ok:Nat->Bool)(π:Nat->Nat)(cn:Nat)(s:dZ B.S):List (Nat×TB B.S)->Option jh
 | []=>some []
 |(id,b)::r=>sI (match bJ s.heap (π id)with
  |some b'=>zo B hp ok π b b'
  |none=>bif Nat.ble cn id&&Nat.ble s.cr (π id)then YT B b else none) (Ni hp ok π cn s r)
def C3{S:Nat->Type}:TB S->Bool
 |.fr _ _ pre _ post=>(match pre with
  | []=>(match post with
   | []=>true
   |_=>false)
  |_=>false)
 |b=>!(gm b)
def Nj(cn:Nat)(L:List (Nat×Nat))(S2 s:dZ B.S):Bool:=
 L.all (λp=>Nat.ble cn p.1)&&S2.heap.all (λp=>Nat.blt p.1 S2.cr&&(!(gm p.2)||Nat.blt (pi L p.1) s.cr||C3 p.2)&&S2.heap.all λq=>Nat.beq p.1 q.1||!(Nat.beq (pi L p.1) (pi L q.1))||Nat.ble s.cr (pi L p.1))&&Nat.ble cn S2.cr&&
  (yQ (kP B s.heap) (kP B S2.heap)&&s.heap.all λp=>!um (fS B p.2)||Nat.blt p.1 cn)&&
  (pz S2.heap&&pz s.heap&&zg S2.cr S2.heap&&zg s.cr s.heap&&(jN L s.cr S2.heap).all λv=>Nat.ble cn v.1||Nat.beq v.1 v.2)
def Nk(cn:Nat)(L:List (Nat×Nat))(E2:dU B.S)(S2:dZ B.S)(bX:dU B.S)(s:dZ B.S):Option jh:=
 bif Nj B cn L S2 s then sI (TI B (S2.heap,s.heap) (gR cn (dA B S2).heap) (pw L (jN L s.cr S2.heap)) bX E2) (Ni B (S2.heap,s.heap) (gR cn (dA B S2).heap) (pw L (jN L s.cr S2.heap)) cn s S2.heap)else none
end
section
variable {B:jg} {ok:Nat->Bool} {π:Nat->Nat} {hp:Pg B.S}
theorem IY{x:TV B.S}{id a b:Nat}(h:C1 x=some (id,a,b)):x.er B.E=.ms id a b:=by
 unfold C1 at h;split at h<;>first|(cases h;rfl)|cases h
theorem Qp{x:TV B.S}{l:List AV}(h:TF B x=some l): ∃b,x.er B.E=.sl b l:=by
 unfold TF at h;rw[<-fP x];generalize x.norm B=y at h;split at h<;>first|(cases h;exact⟨_,rfl⟩)|cases h
theorem one{a b:AV}{q:jh}(h:some [(a,b)]=some q)(hq: ∀p∈q,p.1=p.2):a=b:=by cases h;exact hq (a,b) (by simp)
theorem TJ{x y:AV}{q:jh}(h:coA ok π x y=some q)(hq: ∀p∈q,p.1=p.2):Co ok π x y:=by
 have gen: ∀{x:AV},(bif x.dI then some [(x,y)]else none)=some q->Co ok π x y:=λ{x}h=>by
  cases hc:x.dI with
  |false=>rw[hc]at h;cases h
  |true=>
   rw[hc]at h;have:=one h hq;subst this;exact .c hc
 cases x with
 |mp id e o=>
  cases y<;>first|(cases h;done)|skip
  rename_i fL e' o';have h:(bif ok id&&Nat.beq (π id) fL then some [(AV.mp 0 e o,AV.mp 0 e' o')]else none)=some q:=h;cases hb:(ok id&&Nat.beq (π id) fL)with
  |false=>rw[hb]at h;cases h
  |true=>
   rw[hb]at h;simp only[fE]at hb;have:=one h hq;cases this;exact .mp hb.1 (jn hb.2)
 |ms id a b=>
  cases y<;>first|(cases h;done)|skip
  ·rename_i f l;cases f<;>cases l<;>first|(cases h;done)|skip
   have:=one h hq;cases this;exact .n
  ·rename_i fL a' b';have h:(bif ok id&&Nat.beq (π id) fL then some [(AV.mp 0 a b,AV.mp 0 a' b')]else none)=some q:=h;cases hb:(ok id&&Nat.beq (π id) fL)with
   |false=>rw[hb]at h;cases h
   |true=>
    rw[hb]at h;simp only[fE]at hb;have:=one h hq;cases this;exact .ms hb.1 (jn hb.2)
 |bool _=>exact gen h
 |int _ _=>exact gen h
 |str _=>exact gen h
 |iO=>exact gen h
 |nG=>exact gen h
 |sl _ _=>exact gen h
 |ip _=>exact gen h
 |mc _ _ _ _=>exact gen h
 |fn _ _=>exact gen h
 |lf id=>
  cases y<;>first|(cases h;done)|skip
  rename_i fL;have h:(bif ok id&&Nat.beq (π id) fL then some []else none)=some q:=h;cases hb:(ok id&&Nat.beq (π id) fL)with
  |false=>rw[hb]at h;cases h
  |true=>
   simp only[fE]at hb;exact .y hb.1 (jn hb.2)
 |agg _=>exact gen h
 |eC _=>exact gen h
 |any=>exact gen h
theorem Nl{b b':Nat}{x y:Option (TB B.S)}{q:jh}(h:Nb B b b' x y=some q)(hq: ∀p∈q,p.1=p.2):b=b':=by
 unfold Nb at h;split at h
 ·rename_i cN c x n hn;split at h
  ·rename_i TK c' x' n' mU;cases h;have h1:=hq (.mp 0 0 b,.mp 0 0 n) (by simp);have h2:=hq (.mp 0 0 b',.mp 0 0 n') (by simp);have h3:=hq (.sl false (x.map (B.E c)),.sl false (x'.map (B.E c'))) (by simp);injection h1 with _ _ h1
   injection h2 with _ _ h2
   injection h3 with _ h3
   have:=fC List.length h3;simp only[nE]at this;omega
  ·rename_i TK l;cases h;have h1:=hq (.mp 0 0 b,.mp 0 0 n) (by simp);have h2:=hq (.mp 0 0 b',.mp 0 0 l.length) (by simp);have h3:=hq (.sl false (x.map (B.E c)),.sl false (eB B.E l)) (by simp);injection h1 with _ _ h1
   injection h2 with _ _ h2
   injection h3 with _ h3
   have:=fC List.length h3;simp only[nE,im]at this;omega
  ·cases h
 ·cases h
theorem BM{x:TV B.S}{id a b:Nat}(h:tq x=true)(hm:C1 x=some (id,a,b)):a=0:=by
 unfold tq at h;split at h
 ·cases hm;exact jn h
 ·cases h
theorem Qq{x y:TV B.S}{id a b:Nat}{q:jh}(hx:C1 x=some (id,a,b))(h:TG B hp ok π (tq x) id a b y=some q)(hq: ∀p∈q,p.1=p.2):Co ok π (.ms id a b) (y.er B.E):=by
 unfold TG at h;cases hm:C1 y with
 |some p=>
  obtain⟨fL,a',b'⟩:=p;rw[hm]at h;rw[IY hm];simp only at h;cases hb:(ok id&&Nat.beq (π id) fL)with
  |false=>rw[hb]at h;cases h
  |true=>
   rw[hb]at h;simp only[fE]at hb;simp only[dt]at h;split at h
   ·rename_i q' hl;cases h;cases hw:(tq x&&tq y)with
    |false=>rw[hw]at hl;cases hl
    |true=>
     rw[hw]at hl;simp only[fE]at hw;have e1:=BM hw.1 hx;have e2:=BM hw.2 hm;subst e1;subst e2;exact .e hb.1 (jn hb.2) (Nl hl hq)
   ·have:=one h hq;cases this;exact .ms hb.1 (jn hb.2)
 |none=>
  rw[hm]at h;simp only at h;split at h
  ·have:=one h hq;cases this;exact .n
  ·cases h
theorem nu{f:TV B.S->TV B.S->Option jh}(hf: ∀x y q,f x y=some q->(∀p∈q,p.1=p.2)->Co ok π (x.er B.E) (y.er B.E)): ∀{xs ys:List (TV B.S)}{q:jh},Lt f xs ys=some q->(∀p∈q,p.1=p.2)->sF ok π (eB B.E xs) (eB B.E ys)
 | [],[],_,_,_=>.z
 |x::r,y::l,q,h,hq=>by
  obtain⟨⟨q1,h1,e1⟩,q2,h2,e2⟩:=gv h hq;exact .k (hf x y q1 h1 e1) (nu hf h2 e2)
 | [],_::_,_,h,_=>by cases h
 |_::_,[],_,h,_=>by cases h
theorem kb: ∀{n:Nat}{x y:TV B.S}{q:jh},Hn B hp ok π n x y=some q->(∀p∈q,p.1=p.2)->Co ok π (x.er B.E) (y.er B.E)
 |0,_,_,_,h,_=>by cases h
 |n+1,x,y,q,h,hq=>by
  unfold Hn at h;split at h
  ·rename_i id a b hm;rw[IY hm];exact Qq hm h hq
  ·rename_i hm;split at h
   ·rename_i x0;have gen: ∀{z:AV},(bif x0.dI then some [(x0,z)]else none)=some q->Co ok π x0 z:=λ{z}h=>by
     cases hc:x0.dI with
     |false=>rw[hc]at h;cases h
     |true=>
      rw[hc]at h;have:=one h hq;rw[<-this];exact .c hc
    split at h
    ·exact TJ h hq
    ·exact gen h
   ·rename_i c x;split at h
    ·rename_i l hl;obtain⟨b,hb⟩:=Qp hl;have:=one h hq;cases this;rw[hb];exact .s (lG c x)
    ·cases h
   ·rename_i g cs;split at h
    ·rename_i g' cs';cases hb:Nat.beq g g' with
     |false=>simp[hb]at h
     |true=>
      simp only[hb,dt]at h;have e:=jn hb;subst e;exact .f (nu (λ_ _ _=>kb) h hq)
    ·cases h
   ·split at h
    ·exact .t (nu (λ_ _ _=>kb) h hq)
    ·cases h
   ·rename_i cs;split at h
    ·exact .a (nu (λ_ _ _=>kb) h hq)
    ·rename_i l;cases hc:DW cs with
     |false=>
      simp only[hc,dD]at h;have:=nu (λ_ _ _=>kb) h hq;rw[Nc]at this;exact .a this
     |true=>
      simp only[hc,dt]at h;have:=one h hq;show Co ok π (.agg (eB B.E cs)) _;rw[TV.er,<-this];exact .c (og (B:=B) hc)
    ·cases hc:DW cs with
     |false=>simp[hc]at h
     |true=>
      simp only[hc,dt]at h;have:=one h hq;rw[<-this];exact .c (og (B:=B) hc)
   ·rename_i c x;split at h
    ·rename_i cs';cases hb:C2 cs' with
     |true=>
      simp only[hb,dt]at h;have:=kb h hq;rw[B.hX]at this;exact this
     |false=>
      simp only[hb,dD]at h;have:=one h hq;show Co ok π (B.E c x) _;rw[TV.er,<-this];exact .c (B.hc c x)
    ·rename_i l;cases hb:C2 (aL B.S l)with
     |true=>
      simp only[hb,dt]at h;have:=kb h hq;rw[B.hX,TV.er,Nc]at this;exact this
     |false=>
      simp only[hb,dD]at h;have:=one h hq;show Co ok π (B.E c x) _;rw[TV.er,<-this];exact .c (B.hc c x)
    ·have:=one h hq;show Co ok π (B.E c x) _;rw[<-this];exact .c (B.hc c x)
   ·have gen: ∀{z:TV B.S}{w:AV},(bif z.cl then some [(z.er B.E,w)]else none)=some q->Co ok π (z.er B.E) w:=λ{z w}h=>by
     cases hc:z.cl with
     |false=>rw[hc]at h;cases h
     |true=>
      rw[hc]at h;have:=one h hq;rw[<-this];exact .c (BL hc)
    exact gen h
theorem Nn(n:Nat):fj (List.replicate n (AV.sl true []))=true:=by
 induction n with
 |zero=>rfl
 |succ n ih=>simp only[Yr,fj,ih,AV.dI,Bool.and_self]
theorem C4(hF:zm B hp.1 ok π){b b':TB B.S}{q:jh}(h:zo B hp ok π b b'=some q)(hq: ∀p∈q,p.1=p.2):A0 ok π (fS B b) (fS B b'):=by
 unfold zo at h;split at h
 ·rename_i n l;split at h
  ·rename_i n' l';cases hb:Nat.beq n n' with
   |false=>simp[hb]at h
   |true=>
    simp only[hb,dt]at h;have e:=jn hb;subst e;exact .cells (nu (λ_ _ _=>kb) h hq)
  ·rename_i n' c x _ _;cases hb:Nat.beq n n'&&DW l with
   |false=>simp[hb]at h
   |true=>
    simp only[hb,dt]at h;simp only[fE]at hb;have e:=jn hb.1;subst e;have:=one h hq;injection this with _ this
    simp only[fS,<-this];exact .cells (.r (og (B:=B) hb.2))
  ·cases h
 ·rename_i n c x _ _;split at h
  ·rename_i n' l';cases hb:Nat.beq n n' with
   |false=>simp[hb]at h
   |true=>
    simp only[hb,dt]at h;have e:=jn hb;subst e;have:=one h hq;injection this with _ this
    simp only[fS,<-this];exact .cells (.r (lG c x))
  ·rename_i n' c' x' _ _;cases hb:Nat.beq n n' with
   |false=>simp[hb]at h
   |true=>
    simp only[hb,dt]at h;have e:=jn hb;subst e;have:=one h hq;injection this with _ this
    simp only[fS,<-this];exact .cells (.r (lG c x))
  ·cases h
 ·split at h
  ·split at h
   ·exact .gK
   ·cases h
  ·cases h
 ·rename_i c bX st pd;split at h
  ·rename_i c' env' AK pd';cases hb:Nat.beq c c'&&Nat.beq st AK&&Qn pd pd'&&Nf bX env' with
   |false=>simp[hb]at h
   |true=>
    simp only[hb,dt]at h;simp only[fE]at hb;obtain⟨⟨⟨e1,e2⟩,e3⟩,e4⟩:=hb;have e1:=jn e1;have e2:=jn e2;have e3:=Qo e3;subst e1;subst e2;subst e3;simp only[fS,IX,IW e4];exact .loop (nu (λ_ _ _=>kb) h hq)
  ·cases h
 ·rename_i n c x v k;split at h
  ·rename_i n' c' x' v' k';cases hb:Nat.beq n n' with
   |false=>simp[hb]at h
   |true=>
    simp only[hb,dt]at h;have e:=jn hb;subst e;obtain⟨⟨q1,h1,e1⟩,q2,h2,e2⟩:=gv h hq;have:=one h1 e1;simp only[AV.agg.injEq,List.cons.injEq,AV.sl.injEq,AV.mp.injEq,O7,Px]at this;obtain⟨hm,hk⟩:=this;subst hk;simp only[fS,<-hm];exact .cells (.p (.r (lG c x)) (.p (nu (λ_ _ _=>kb) h2 e2) (.r (Nn k))))
  ·cases h
 ·rename_i n c w cl pre lh post;split at h
  ·rename_i n' c' w' TH Ng Nh EK;cases hb:Nat.beq n n'&&Nat.beq c c'&&Nat.beq (π w) w'&&(cl==TH)&&Nat.blt 0 (B.K c)with
   |false=>simp[hb]at h
   |true=>
    simp only[hb,dt]at h;simp only[fE,beq_iff_eq,ru]at hb;obtain⟨⟨⟨⟨e1,e2⟩,e3⟩,e4⟩,hk⟩:=hb;have e1:=jn e1;have e2:=jn e2;have e3:=jn e3;subst e1;subst e2;subst e3;subst e4;split at h
    ·rename_i c2 W3 W4 n2 RM hg;cases wE:Nat.beq c2 c&&(W3==cl)&&Nat.beq n2 lh.length with
     |false=>simp[wE]at h
     |true=>
      simp only[wE,dt]at h;simp only[fE,beq_iff_eq]at wE;obtain⟨⟨e5,e6⟩,e7⟩:=wE;have e5:=jn e5;have e7:=jn e7;subst e5;subst e6;subst e7;obtain⟨⟨q1,h1,e1⟩,q2,h2,e2⟩:=gv h hq;have:=one h1 e1;simp only[AV.agg.injEq,List.cons.injEq,AV.sl.injEq,O7,Px]at this;obtain⟨m1,m2,m3,m4⟩:=this;have m1:=map_inj hk m1;have m2:=map_inj hk m2;have m3:=map_inj hk m3;have m4:=map_inj hk m4;subst m1;subst m2;subst m3;subst m4;have Bc:=nu (λ_ _ _=>kb) h2 e2;have PH:Nh.length=lh.length:=by have:=Bc.length;rw[im,im]at this;exact this.symm
      have hf:=hF w _ hg;simp only[eX]at hf;simp only[fS,PH];refine .cells (.p ?_ (.p Bc ?_))
      ·cases W3 with
       |true=>exact .r (lG c2 pre)
       |false=>exact rX λid x hx=>hf id x (by simp only[dD];rw[dp,hx])
      ·refine rX λid x hx=>?_;cases hq:bJ (bif W3 then []else gy B c2 w 0 pre) id with
       |some y=>exact hf id y (by rw[dp,hq])
       |none=>exact hf id x (by rw[dp,hq];exact hx)
    ·cases h
  ·rename_i n' c' x' _ _;split at h
   ·split at h
    ·split at h
     ·cases hb:Nat.beq n n' with
      |false=>simp[hb]at h
      |true=>
       simp only[hb,dt]at h;have e:=jn hb;subst e;have:=one h hq;injection this with _ this
       simp only[fS,<-this];cases cl<;>exact .cells .z
     ·cases h
    ·cases h
   ·cases h
  ·cases h
 ·split at h
  ·exact .cells .z
  ·cases h
theorem xQ{c n:Nat}{cl:Bool}{pre post:List (B.S c)}{b':TB B.S}{q:jh}(h:zo B hp ok π (.fr c cl pre n post) b'=some q)(hq: ∀p∈q,p.1=p.2):b'=.fr c cl pre n post:=by
 unfold zo at h;simp only at h;split at h
 ·rename_i c' TH Ng n' EK;cases hb:Nat.beq c c'&&(cl==TH)&&Nat.beq n n'&&Nat.blt 0 (B.K c)with
  |false=>simp[hb]at h
  |true=>
   simp only[hb,dt]at h;simp only[fE,beq_iff_eq,ru]at hb;obtain⟨⟨⟨e1,e2⟩,e3⟩,hk⟩:=hb;have e1:=jn e1;have e3:=jn e3;subst e1;subst e2;subst e3;have:=one h hq;simp only[AV.agg.injEq,List.cons.injEq,AV.sl.injEq,O7,Px]at this;rw[map_inj hk this.1,map_inj hk this.2]
 ·cases h
theorem TL{b:TB B.S}{q:jh}(h:YT B b=some q)(hq: ∀p∈q,p.1=p.2): ∃cN,0<cN/\fS B b=.cells cN []:=by
 unfold YT at h;split at h
 ·rename_i n l;cases hb:Nat.blt 0 n with
  |false=>simp[hb]at h
  |true=>
   simp only[hb,dt]at h;have:=one h hq;injection this with _ this
   exact⟨n,by simpa[ru]using hb,by simp only[fS,this]⟩
 ·rename_i n c x _ _;cases hb:Nat.blt 0 n with
  |false=>simp[hb]at h
  |true=>
   simp only[hb,dt]at h;have:=one h hq;injection this with _ this
   exact⟨n,by simpa[ru]using hb,by simp only[fS,this]⟩
 ·cases h
 ·cases h
 ·cases h
 ·rename_i n c w cl pre lh post;split at h
  ·split at h
   ·split at h
    ·cases hb:Nat.blt 0 n with
     |false=>simp[hb]at h
     |true=>exact⟨n,by simpa[ru]using hb,by cases cl<;>rfl⟩
    ·cases h
   ·cases h
  ·cases h
 ·exact⟨1,by decide,rfl⟩
theorem IZ{bX:dU B.S}: ∀{E2:dU B.S}{q:jh},TI B hp ok π bX E2=some q->(∀p∈q,p.1=p.2)-> ∀t x,bJ (eY B E2) t=some x-> ∃y,bJ (eY B bX) t=some y/\Co ok π x y
 | [],_,_,_,t,x,hx=>by simp[eY,di]at hx
 |(k,X)::r,q,h,hq,t,x,hx=>by
  obtain⟨⟨q1,h1,e1⟩,q2,h2,e2⟩:=gv h hq;simp only[eY,cZ]at hx;split at hx
  ·rename_i e;subst e;cases hx;split at h1
   ·rename_i y hy;exact⟨_,by rw[lP,hy];rfl,kb h1 e1⟩
   ·cases h1
  ·exact IZ h2 e2 t x hx
theorem I0(hF:zm B hp.1 ok π){cn:Nat}{s:dZ B.S}: ∀{h2:List (Nat×TB B.S)}{q:jh},Ni B hp ok π cn s h2=some q->(∀p∈q,p.1=p.2)->RD ok π cn (dA B s) (kP B h2)
 | [],_,_,_=>.z
 |(id,b)::r,q,h,hq=>by
  obtain⟨⟨q1,h1,e1⟩,q2,h2,e2⟩:=gv h hq;have ih:=I0 hF h2 e2;split at h1
  ·rename_i b' hb;exact .k (dE hb) (C4 hF h1 e1) ih
  ·cases hc:Nat.ble cn id&&Nat.ble s.cr (π id)with
   |false=>simp[hc]at h1
   |true=>
    simp only[hc,dt]at h1;simp only[fE]at hc;obtain⟨cN,h0,he⟩:=TL h1 e1;simp only[kP,he];exact .n hc.1 hc.2 (by simpa[ru]using h0) ih
theorem I1{cn:Nat}{s:dZ B.S}{c n:Nat}{cl:Bool}{pre post:List (B.S c)}: ∀{h2:List (Nat×TB B.S)}{q:jh},Ni B hp ok π cn s h2=some q->(∀p∈q,p.1=p.2)-> ∀{w:Nat},bJ h2 w=some (.fr c cl pre n post)->bJ s.heap (π w)=some (.fr c cl pre n post)\/(s.cr<=π w/\pre=[]/\post=[])
 | [],_,_,_,w,hg=>by simp[di]at hg
 |(id,b)::r,q,h,hq,w,hg=>by
  obtain⟨⟨q1,h1,e1⟩,q2,h2,e2⟩:=gv h hq;simp only[cZ]at hg;split at hg
  ·rename_i e;cases hg;subst e;split at h1
   ·rename_i b' hb;rw[hb,xQ h1 e1];exact .inl rfl
   ·cases hc:Nat.ble cn id&&Nat.ble s.cr (π id)with
    |false=>simp[hc]at h1
    |true=>
     simp only[hc,dt]at h1;simp only[fE]at hc;refine .inr ⟨tR hc.2,?_⟩;simp only[YT]at h1;split at h1
     ·split at h1
      ·exact⟨rfl,rfl⟩
      ·cases h1
     ·cases h1
  ·exact I1 h2 e2 hg
theorem Np{cn:Nat}{s:dZ B.S}: ∀{h2:List (Nat×TB B.S)}{q:jh},Ni B hp ok π cn s h2=some q->(∀p∈q,p.1=p.2)-> ∀{id:Nat}{b:TB B.S},bJ h2 id=some b->(∃b',bJ s.heap (π id)=some b')\/s.cr<=π id
 | [],_,_,_,id,_,hg=>by simp[di]at hg
 |(k,b0)::r,q,h,hq,id,b,hg=>by
  obtain⟨⟨q1,h1,e1⟩,q2,h2,e2⟩:=gv h hq;simp only[cZ]at hg;split at hg
  ·rename_i e;subst e;split at h1
   ·rename_i b' hb;exact .inl ⟨b',hb⟩
   ·cases hc:Nat.ble cn k&&Nat.ble s.cr (π k)with
    |false=>simp[hc]at h1
    |true=>
     simp only[fE]at hc;exact .inr (tR hc.2)
  ·exact Np h2 e2 hg
theorem C5{cn:Nat}{L:List (Nat×Nat)}{E2 bX:dU B.S}{S2 s:dZ B.S}{q:jh}(h:Nk B cn L E2 S2 bX s=some q)(hq: ∀p∈q,p.1=p.2):Kk cn (pw L (jN L s.cr S2.heap)) (eY B E2) (dA B S2) (eY B bX) (dA B s):=by
 unfold Nk at h;cases hb:Nj B cn L S2 s with
 |false=>simp[hb]at h
 |true=>
  simp only[hb,dt]at h;obtain⟨⟨q1,h1,e1⟩,q2,h2,e2⟩:=gv h hq;simp only[Nj,fE]at hb;obtain⟨⟨⟨⟨b1,b2⟩,b3⟩,b4,b5⟩,⟨⟨⟨w1,w2⟩,w3⟩,w4⟩,w5⟩:=hb;have b3:=tR b3;have key: ∀{id b},bJ S2.heap id=some b->id<S2.cr/\(gm b=false\/pi L id<s.cr\/C3 b=true)/\ ∀{fL b'},bJ S2.heap fL=some b'->id=fL\/pi L id≠pi L fL\/s.cr<=pi L id:=λ{id b}hg=>by
   have:=dV b2 hg;simp only[fE,ru,tY,qn]at this;refine⟨this.1.1,?_,λ{fL b'}kN=>?_⟩
   ·rcases this.1.2 with(h|h)|h
    ·exact .inl h
    ·exact .inr (.inl h)
    ·exact .inr (.inr h)
   have:=dV this.2 kN;simp only[tY,qn,JP]at this;rcases this with(h|h)|h
   ·exact .inl (jn h)
   ·exact .inr (.inl (Bb h))
   ·exact .inr (.inr h)
  have full: ∀{w b id x},bJ S2.heap w=some b->bJ (eX B w b) id=some x->gm b=true/\gb w id=false/\pi L w<s.cr:=λ{w b id x}hg hx=>by
   obtain⟨f1,f2⟩:=fh hx;refine⟨f1,f2,?_⟩;rcases(key hg).2.1 with h|h|h
   ·rw[f1]at h;cases h
   ·exact h
   ·exfalso;obtain⟨c,cl,pre,n,post,rfl⟩:=lZ f1;unfold C3 at h;simp only at h;split at h
    ·split at h
     ·cases cl<;>simp[eX,gy,di]at hx
     ·cases h
    ·cases h
  have row: ∀{w b id x},bJ S2.heap w=some b->bJ (eX B w b) id=some x->pw L (jN L s.cr S2.heap) id=pi L w+(id-w):=λ{w b id x}hg hx=>by
   obtain⟨f1,f2,f3⟩:=full hg hx;exact Hm w1 hg f1 f3 f2
  have hF:zm B S2.heap (gR cn (dA B S2).heap) (pw L (jN L s.cr S2.heap)):=λw b hg id x hx=>⟨qL (jm w1 hg hx),by rw[row hg hx,lE w1 hg]⟩;have W5:=I0 (hp:=(S2.heap,s.heap)) hF h2 e2;have YU: ∀{w b id x},bJ S2.heap w=some b->bJ (eX B w b) id=some x->bJ s.heap (pi L w)=some b/\gb (pi L w) (pi L w+(id-w))=false/\ ∃x',bJ (dA B s).heap (pi L w+(id-w))=some x'/\bJ (kP B s.heap) (pi L w+(id-w))=none/\A0 (gR cn (dA B S2).heap) (pw L (jN L s.cr S2.heap)) x x':=λ{w b id x}hg hx=>by
   obtain⟨f1,f2,f3⟩:=full hg hx;obtain⟨c,cl,pre,n,post,rfl⟩:=lZ f1;have hs:bJ s.heap (pi L w)=some (.fr c cl pre n post):=by
    rcases I1 (hp:=(S2.heap,s.heap)) h2 e2 hg with h|⟨h,_⟩
    ·rw[lE w1 hg]at h;exact h
    ·rw[lE w1 hg]at h;omega
   obtain⟨x',s7,hc⟩:=uD (w':=pi L w) (λid x hx=>⟨(hF w _ hg id x hx).1,row hg hx⟩) id x hx;exact⟨hs,(fh s7).2,x',jm w2 hs s7,(IU w2 hs s7).1,hc⟩
  have not: ∀{w b id x k c},bJ S2.heap w=some b->bJ (eX B w b) id=some x->bJ S2.heap k=some c->pi L k=pi L w+(id-w)->False:=λ{w b id x k c}hg hx hk e=>by
   obtain⟨p1,p2,x',q1,q2,_⟩:=YU hg hx;rcases Np h2 e2 hk with⟨b2,k5⟩|k5
   ·rw[lE w1 hk,e]at k5;rw[gi,k5]at q2;cases q2
   ·rw[lE w1 hk]at k5;obtain⟨f1,_⟩:=fh hx;have:=dV w4 p1;simp only[f1,qc,Ii]at this;have:=tR this;obtain⟨o1,o2⟩:=fi p2;omega
  refine⟨⟨⟨?_,?_,?_,?_,b3⟩,?_⟩,IZ h1 e1⟩
  ·intro id x hx;rcases gS w1 hx with⟨b,hg,rfl⟩|⟨hn,w,b,hg,hr⟩
   ·exact W5.get id _ (by rw[gi,hg];rfl)
   ·obtain⟨_,_,x',q1,_,q3⟩:=YU hg hr;exact .inl ⟨x',by rw[row hg hr];exact q1,q3⟩
  ·intro id hl;unfold pw;split
   ·rename_i v hv;obtain⟨v1,v2⟩:=pR hv;have:=pA.1 w5 v v1;simp only[tY]at this;obtain⟨o1,o2⟩:=fi v2;rcases this with h|h
    ·have:=tR h;omega
    ·have:=jn h;omega
   ·exact Tl b1 hl
  ·intro id fL x x' hx s7 e;rcases gS w1 hx with⟨b,hg,rfl⟩|⟨hn,w,b,hg,hr⟩
   ·rw[lE w1 hg]at e |-
    rcases gS w1 s7 with⟨b',kN,rfl⟩|⟨mU,w',b',kN,GY⟩
    ·rw[lE w1 kN]at e;rcases(key hg).2.2 kN with h|h|h
     ·exact .inl h
     ·exact absurd e h
     ·exact .inr h
    ·rw[row kN GY]at e;exact(not kN GY hg e).elim
   ·rw[row hg hr]at e |-
    rcases gS w1 s7 with⟨b',kN,rfl⟩|⟨mU,w',b',kN,GY⟩
    ·rw[lE w1 kN]at e;exact(not hg hr kN e.symm).elim
    ·rw[row kN GY]at e;obtain⟨p1,p2,_⟩:=YU hg hr;obtain⟨p3,p4,_⟩:=YU kN GY;have hp:=mA w2 p1 p3 (full hg hr).1 (full kN GY).1 p2 (by rw[e];exact p4);rcases(key hg).2.2 kN with h|h|h
     ·subst h;obtain⟨n1,n2⟩:=fi (full hg hr).2.1;obtain⟨n3,n4⟩:=fi (full kN GY).2.1;exact .inl (by omega)
     ·exact absurd hp h
     ·have:=(full hg hr).2.2;omega
  ·intro id x hx;rcases gS w1 hx with⟨b,hg,rfl⟩|⟨hn,w,b,hg,hr⟩
   ·exact(key hg).1
   ·obtain⟨f1,f2⟩:=fh hr;have:=dV w3 hg;simp only[f1,qc,Ii]at this;have:=tR this;obtain⟨o1,o2⟩:=fi f2;show id<S2.cr;omega
  ·intro id hd;rcases gS w2 hd with⟨b,hg,hb⟩|⟨hn,w,b,hg,hr⟩
   ·have:=dV b5 hg;simp only[<-hb,um,qc,Ii,ru]at this;refine⟨this,?_⟩;have:=mV b4 id (by rw[gi,hg,gX,<-hb]);simp only[dA];rw[dp,this]
   ·exact(nr hr).elim
end
section
variable {S:Nat->Type}
def Ph(f:TV S->TV S->List (Nat×Nat)):List (TV S)->List (TV S)->List (Nat×Nat)
 |x::r,y::l=>f x y++Ph f r l
 |_,_=>[]
def Pj(Hp:Nat):Nat->TV S->TV S->List (Nat×Nat)
 |0,_,_=>[]
 |n+1,x,y=>match C1 x with
  |some (i,_,_)=>(match C1 y with
   |some (j,_,_)=>[(i,j)]
   |none=>[(i,Hp+i)])
  |none=>match x with
   |.a (.mp i _ _)=>(match y with
    |.a (.mp j _ _)=>[(i,j)]
    |_=>[])
   |.a (.lf i)=>(match y with
    |.a (.lf j)=>[(i,j)]
    |_=>[])
   |.fn _ cs=>(match y with
    |.fn _ cs'=>Ph (Pj Hp n) cs cs'
    |_=>[])
   |.eC cs=>(match y with
    |.eC cs'=>Ph (Pj Hp n) cs cs'
    |_=>[])
   |.agg cs=>(match y with
    |.agg cs'=>Ph (Pj Hp n) cs cs'
    |.a (.agg l)=>Ph (Pj Hp n) cs (aL S l)
    |_=>[])
   |_=>[]
def EL(cn:Nat):List (Nat×Nat)->List (Nat×Nat)
 | []=>[]
 |p::r=>bif Nat.ble cn p.1 then p::EL cn r else EL cn r
def prE(Hp:Nat)(bX:dU S):dU S->List (Nat×Nat)
 | []=>[]
 |(t,x)::r=>(match bJ bX t with
  |some y=>Pj Hp 4 x y
  |none=>[])++prE Hp bX r
def RN(Hp:Nat)(d:Bool)(L:List (Nat×Nat))(h:List (Nat×TB S)):List (Nat×TB S)->List (Nat×Nat)
 | []=>[]
 |(id,b)::r=>(match b with
  |.cW _ l=>(match bJ h (pi L id)with
   |some (.cW _ l')=>Ph (Pj Hp 4) l l'
   |_=>[])
  |.rows _ _ _ v _=>(match bJ h (pi L id)with
   |some (.rows _ _ _ v' _)=>Ph (Pj Hp 4) v v'
   |_=>[])
  |.lp _ bX _ _=>(match bJ h (pi L id)with
   |some (.lp _ env' _ _)=>Ph (Pj Hp 4) (Ho bX) (Ho env')
   |_=>[])
  |.fm _ _ w _ _ lh _=>(match bJ h (pi L id)with
   |some (.fm _ _ w' _ _ Nh _)=>(w,w')::Ph (Pj Hp 4) lh Nh
   |_=>bif d then [(w,Hp+w)]else [])
  |_=>[])++RN Hp d L h r
def Nq(cn:Nat)(E2:dU S)(S2:dZ S)(bX:dU S)(s:dZ S):List (Nat×Nat):=
 match EL cn (prE s.cr bX E2)with
 |l0=>match l0++EL cn (RN s.cr false l0 s.heap S2.heap)with
  |l1=>l1++EL cn (RN s.cr true l1 s.heap S2.heap)
def l6:List Nat->dU S->dU S
 | [],_=>[]
 |t::r,bX=>match bJ bX t with
  |some x=>(t,x)::l6 r bX
  |none=>l6 r bX
def ly:List Nat->List (Nat×TB S)->List (Nat×TB S)
 | [],_=>[]
 |i::r,h=>match bJ h i with
  |some b=>(i,b)::ly r h
  |none=>ly r h
def yOf:TO S->Option Code
 |.ro _ y=>y
 |.po _ _ _ y=>y
 |.rd _ _ y=>y
 |.pl _ _ _ _ _ _ _ _ y=>y
 |.ph _ _ _ _ _ y=>y
 |_=>none
end
def Qr(ρ:Option Nat)(n:Nat):Bool:=match ρ with
 |none=>true
 |some id=>Nat.blt id n
theorem Qs{ρ:Option Nat}{n:Nat}(h:Qr ρ n=true): ∀id,ρ=some id->id<n:=λid e=>by
 subst e;simpa[Qr,ru]using h
def Bd(B:jg)(ρ:Option Nat)(cn:Nat)(E2:dU B.S)(S2:dZ B.S)(M:TM B.S):jh:=match(bif Qr ρ cn then Nk B cn (Nq cn E2 S2 M.bX M.s) E2 S2 M.bX M.s else none)with
 |some q=>q
 |none=>[(.any,.iO)]
theorem xR{B:jg}{ρ:Option Nat}{cn:Nat}{E2:dU B.S}{S2:dZ B.S}{M:TM B.S}(hq: ∀p∈Bd B ρ cn E2 S2 M,p.1=p.2):(∀id,ρ=some id->id<cn)/\ ∃π,Kk cn π (eY B E2) (dA B S2) (eY B M.bX) (dA B M.s):=by
 unfold Bd at hq;cases hb:Qr ρ cn with
 |false=>
  rw[hb]at hq;have:=hq (.any,.iO) (by simp);cases this
 |true=>
  rw[hb]at hq;simp only[dt]at hq;refine⟨Qs hb,?_⟩;split at hq
  ·rename_i q h;exact⟨_,C5 h hq⟩
  ·have:=hq (.any,.iO) (by simp);cases this
section
variable {B:jg} {P:Program} {N:Nat} {ρ:Option Nat} {Q:Exit->Env->St->Prop} {M:TM B.S} {α β:Type} {r:β}
def YV(B:jg)(P:Program)(N:Nat)(M:TM B.S)(run:Bool)(n:Nat)(dx ids:List Nat)(cr:Nat)(U:dU B.S×List (Nat×TB B.S)):TM B.S:=
 ⟨bif run then CX (yOf (G B P N M).1.o)else .out .normal,(G B P N M).1.k.drop n,U.1++l6 dx (G B P N M).1.bX,⟨U.2++ly ids (G B P N M).1.s.heap,cr⟩⟩
theorem tJ{J:Type}{o:Option J}{K:J->Option β}(h:o.bind K=some r)(run:Bool)(n:Nat)(dx ids:List Nat)(cr:Nat)(U:J->dU B.S×List (Nat×TB B.S))
  (h1: ∀a,o=some a->(∀j,a=j->RT B P N ρ Q (YV B P N M run n dx ids cr (U j)))->RT B P N ρ Q M) (h2: ∀j,K j=some r->RT B P N ρ Q (YV B P N M run n dx ids cr (U j))):RT B P N ρ Q M:=
 let⟨a,ha,hK⟩:=mG h
 h1 a ha λj e=>h2 j (e ▸ hK)
theorem jv{J:Type}{o:Option (J⊕β)}{K:J->Option β}(h:o.bind (Sum.elim K some)=some r)(run:Bool)(n:Nat)(dx ids:List Nat)(cr:Nat)(U:J->dU B.S×List (Nat×TB B.S))
  (h1: ∀a,o=some a->(∀j,a=.inl j->RT B P N ρ Q (YV B P N M run n dx ids cr (U j)))->Sum.elim K some a=some r->RT B P N ρ Q M) (h2: ∀j,K j=some r->RT B P N ρ Q (YV B P N M run n dx ids cr (U j))):RT B P N ρ Q M:=
 let⟨a,ha,hK⟩:=mG h
 h1 a ha (λj e=>h2 j (by subst e;exact hK)) hK
theorem sj{γ:Type}{a b:γ}(h:some a=some b):b=a:=(Option.some.inj h).symm
theorem sE{J:Type}{x:β}{a:J⊕β}{K:J->Option β}(h:some (Sum.inr x)=some a)(h2:Sum.elim K some a=some r):some x=some r:=by cases h;exact h2
def toRun(B:jg)(P:Program)(N:Nat)(T M:TM B.S):TM B.S×jh:=Tw B P N (RI (zd T.o) T.k.length) FT M
theorem I2{o:TO B.S}{k:List Fr}{bX E2:dU B.S}{s S2:dZ B.S}(ho:ke o=true){π:Nat->Nat}{cn:Nat}(GQ: ∀id,ρ=some id->id<cn)(hb:s.cr<=cn)(hI:Kk cn π (eY B E2) (dA B S2) (eY B bX) (dA B s))(h:kR B P N ρ Q ⟨o,k,E2,S2⟩):kR B P N ρ Q ⟨o,k,bX,s⟩:=by
 cases o<;>simp only[ke]at ho<;>first|(cases ho;done)|skip
 ·have h:xp P N ρ Q ⟨.run _,k,eY B E2,dA B S2⟩:=h;exact tg (cn:=cn) hb (ur GQ hI) h
 ·have h:xp P N ρ Q ⟨.out _,k,eY B E2,dA B S2⟩:=h;exact tg (cn:=cn) hb (ur GQ hI) h
theorem tM{T:TM B.S}(kj:RT B P N ρ Q T)(hx:(ke T.o,(toRun B P N T M).1.o,(toRun B P N T M).1.k,(toRun B P N T M).2.map Prod.fst,(Bd B ρ (toRun B P N T M).1.s.cr T.bX T.s (toRun B P N T M).1).map Prod.fst)=
  (true,T.o,T.k,(toRun B P N T M).2.map Prod.snd,(Bd B ρ (toRun B P N T M).1.s.cr T.bX T.s (toRun B P N T M).1).map Prod.snd):=by kernel_rfl):RT B P N ρ Q M:=by
 simp only[Prod.mk.injEq]at hx;obtain⟨h0,h1,h2,h3,h4⟩:=hx;refine⟨kr (eo h3) ?_⟩;obtain⟨GQ,L,hI⟩:=xR (eo h4);have e:(toRun B P N T M).1=⟨T.o,T.k,(toRun B P N T M).1.bX,(toRun B P N T M).1.s⟩:=by rw[<-h1,<-h2]
 show kR B P N ρ Q (toRun B P N T M).1;rw[e];exact I2 h0 GQ (eD _) hI kj.v
def TN{S:Nat->Type}:TO S->Code
 |.run (.loop x)=>x
 |_=>.skip
def I3{S:Nat->Type}:TO S->Bool
 |.run (.loop _)=>true
 |_=>false
section
variable {σ τ:Type}
def TP(B:jg)(P:Program)(N:Nat)(M:TM B.S)(dx:List Nat)(U:σ->dU B.S×List (Nat×TB B.S))(st:σ):dU B.S:=(U st).1++l6 dx (G B P N M).1.bX
def TQ(B:jg)(P:Program)(N:Nat)(M:TM B.S)(ids:List Nat)(cr:Nat)(U:σ->dU B.S×List (Nat×TB B.S))(st:σ):dZ B.S:=⟨(U st).2++ly ids (G B P N M).1.s.heap,cr⟩
def loF(B:jg)(P:Program)(N:Nat)(ρ:Option Nat)(M:TM B.S)(dx ids:List Nat)(cr:Nat)(U:σ->dU B.S×List (Nat×TB B.S))(out:σ⊕τ):Fr:=
 .lp (Nx N ρ (G B P N M).1.s.cr (λst=>eY B (TP B P N M dx U st)) (λst=>dA B (TQ B P N M ids cr U st)) out) (∃r,out=.inr r)
structure LT (B:jg) (P:Program) (N:Nat) (M:TM B.S) (dx ids:List Nat) (cr:Nat) (U:σ->dU B.S×List (Nat×TB B.S)) (out:σ⊕τ):Prop where
 t:True
theorem tL{body:σ->Option (σ⊕τ)}{n:Nat}{Ln:σ}{Lo:τ}(hl:cA body n Ln=some Lo)(dx ids:List Nat)(cr:Nat)(U:σ->dU B.S×List (Nat×TB B.S))
  (round: ∀st out,body st=some out->(∀r,out=.inr r->r=Lo)->LT B P N M dx ids cr U out->RT B P N ρ Q ⟨.run (TN (G B P N M).1.o),loF B P N ρ M dx ids cr U out::(G B P N M).1.k,TP B P N M dx U st,TQ B P N M ids cr U st⟩)
  (hx:(I3 (G B P N M).1.o,(G B P N M).2.map Prod.fst,(Bd B ρ (G B P N M).1.s.cr (TP B P N M dx U Ln) (TQ B P N M ids cr U Ln) (G B P N M).1).map Prod.fst)=
   (true,(G B P N M).2.map Prod.snd,(Bd B ρ (G B P N M).1.s.cr (TP B P N M dx U Ln) (TQ B P N M ids cr U Ln) (G B P N M).1).map Prod.snd):=by kernel_rfl):RT B P N ρ Q M:=by
 simp only[Prod.mk.injEq]at hx;obtain⟨h0,h1,h2⟩:=hx;refine qT h1 ⟨?_⟩;obtain⟨GQ,L,hI⟩:=xR (eo h2);have rd:=λst out h1 h2=>(round st out h1 h2 ⟨trivial⟩).v;clear round;unfold loF at rd;generalize TP B P N M dx U=E at *;generalize TQ B P N M ids cr U=Z at *;clear h1 h2;generalize(G B P N M).1=g at *;obtain⟨o,k,bX,s⟩:=g;simp only at *;cases o<;>simp only[I3]at h0<;>first|(cases h0;done)|skip
 rename_i c;cases c<;>simp only at h0<;>first|(cases h0;done)|skip
 rename_i x;exact P5 (s:=dA B s) body hl (λst=>eY B (E st)) (λst=>dA B (Z st)) (ur GQ hI) λst out hb hr=>rd st out hb hr
theorem tN{M':TM B.S}{dx ids:List Nat}{cr:Nat}{U:σ->dU B.S×List (Nat×TB B.S)}{out:σ⊕τ}{st:σ}(K:LT B P N M' dx ids cr U out)(h:some (.inl st)=some out)
  (hx:((G B P N M).1.o,(G B P N M).1.k,(G B P N M).2.map Prod.fst,(Bd B ρ (G B P N M').1.s.cr (TP B P N M' dx U st) (TQ B P N M' ids cr U st) (G B P N M).1).map Prod.fst)=
   (.out .normal,loF B P N ρ M' dx ids cr U out::(G B P N M').1.k,(G B P N M).2.map Prod.snd,(Bd B ρ (G B P N M').1.s.cr (TP B P N M' dx U st) (TQ B P N M' ids cr U st) (G B P N M).1).map Prod.snd):=by kernel_rfl):RT B P N ρ Q M:=by
 simp only[Prod.mk.injEq]at hx;obtain⟨h0,h1,h2,h3⟩:=hx;refine qT h2 ⟨?_⟩;obtain⟨GQ,L,hI⟩:=xR (eo h3);generalize(G B P N M).1=g at *;obtain⟨o,k,bX,s⟩:=g;simp only at *;subst h0;subst h1;exact P4 (sj h) (ur GQ hI)
def lpA{S:Nat->Type}(M:TM S):Option Prop:=match M.o with
 |.out e=>(match M.k with
  |.lp _ ok::_=>(match e with
   |.normal=>none
   |_=>some ok)
  |_=>none)
 |_=>none
def aaz{S:Nat->Type}(M:TM S):TM S:=⟨M.o,M.k.tail,M.bX,M.s⟩
theorem tO{out:σ⊕τ}{t:τ}(h:some (.inr t)=some out)(k:RT B P N ρ Q (aaz (G B P N M).1))(hx:(lpA (G B P N M).1,(G B P N M).2.map Prod.fst)=(some (∃r,out=.inr r),(G B P N M).2.map Prod.snd):=by kernel_rfl):RT B P N ρ Q M:=by
 simp only[Prod.mk.injEq]at hx;obtain⟨h0,h1⟩:=hx;refine qT h1 ⟨?_⟩;have k:=k.v;generalize(G B P N M).1=g at *;obtain⟨o,fr,bX,s⟩:=g;unfold lpA at h0;split at h0
 ·rename_i e ho;simp only at ho;subst ho;split at h0
  ·rename_i nx ok k' hk;simp only at hk;subst hk;split at h0
   ·cases h0
   ·rename_i eU;have e1:=Option.some.inj h0;have ho:ok:=by rw[e1];exact⟨t,sj h⟩
    have k:xp P N ρ Q ⟨.out e,k',eY B bX,dA B s⟩:=k;show xp P N ρ Q ⟨.out e,.lp nx ok::k',eY B bX,dA B s⟩;intro G w a hn;refine iy.of (k G w a hn) λbX s hq=>?_;cases e with
    |normal=>exact absurd rfl eU
    |exit _=>exact⟨ho,hq⟩
    |goto _=>exact⟨ho,hq⟩
    |ret=>exact⟨ho,hq⟩
    |panic _=>exact⟨ho,hq⟩
    |outgrown=>exact⟨ho,hq⟩
  ·cases h0
 ·cases h0
theorem oJ{out:σ⊕τ}{t Lo:τ}(h:some (.inr t)=some out)(e: ∀r,out=.inr r->r=Lo):Lo=t:=(e _ (sj h)).symm
theorem oE{J β:Type}{r x:β}{out:σ⊕(J⊕β)}{Lo:J⊕β}{K:J->Option β}(h:some (.inr (.inr x))=some out)(e: ∀r,out=.inr r->r=Lo)(h2:Sum.elim K some Lo=some r):some x=some r:=by have:=oJ h e;subst this;exact h2
end
def EM(P:Program)(f:FuncId):Option (Nat×List ResultVar×Code):=(P.funcs[f]?).bind λfn=>fn.body.map λb=>(fn.ntmps,fn.results.toList,b)
def nF(P:Program)(f:FuncId):Nat:=match EM P f with
 |some (n,_,_)=>n
 |none=>0
def rF(P:Program)(f:FuncId):List ResultVar:=match EM P f with
 |some (_,r,_)=>r
 |none=>[]
def cF(P:Program)(f:FuncId):Code:=match EM P f with
 |some (_,_,c)=>c
 |none=>.skip
def Ky{S:Nat->Type}:List (TV S)->Nat->dU S
 | [],_=>[]
 |x::r,k=>(k,x)::Ky r (k+1)
theorem I4{l:List (TV B.S)}{k:Nat}:eY B (Ky l k)=nY (eB B.E l) k:=by
 induction l generalizing k with
 |nil=>simp[Ky,eY,eB,nY]
 |cons x r ih=>simp only[Ky,eY,eB,nY,ih]
def TU:AV->AV
 |.sl _ l=>.sl false l
 |x=>x
def TW:AV->AV
 |.agg l=>.agg (l.map TU)
 |x=>TU x
def ep:AV->AV
 |.eC l=>.eC (l.map TW)
 |x=>TW x
theorem Nr{G:cx}{x:AV}{v:Value}(h:V G x v):V G (TU x) v:=by
 cases x<;>first|exact h|skip
 rename_i f l;cases h with
 |slnil _ cn cap hf hb=>exact .slnil false cn cap (λe=>by cases e) hb
 |sl _ _ b off cN cap val ko kc eE jH iw hV=>exact .sl false l b off cN cap val ko (λe=>by cases e) eE jH iw hV
theorem Ns{G:cx}{x:AV}{v:Value}(h:V G x v):V G (TW x) v:=by
 cases x<;>first|exact Nr h|skip
 cases h with
 |agg cs vs dJ h=>exact .agg _ vs (by rw[nE];exact dJ) λi x y hx hy=>(by
  rw[sW]at hx;obtain⟨z,hz,rfl⟩:=D5.1 hx;exact Nr (h i z y hz hy))
theorem W6{G:cx}{x:AV}{v:Value}(h:V G x v):V G (ep x) v:=by
 cases x<;>first|exact Ns h|skip
 cases h with
 |eC cs vs dJ h=>exact .eC _ vs (by rw[nE];exact dJ) λi x y hx hy=>(by
  rw[sW]at hx;obtain⟨z,hz,rfl⟩:=D5.1 hx;exact Ns (h i z y hz hy))
theorem Kz{f:FuncId}{args:List AV}{x:AV}(ha:fj args=true)(hx:x.dI=true)(h:dQ P f args St.nil λy s=>ep (Go.Am.PN y s).1=x):kU P f args x:=
 Rl ha hx (dQ.turn (h.mono λy s hq=>⟨_,_,λG w v hs hv=>by
  obtain⟨G',h1,h2,h3⟩:=El s y G w v hs hv;exact⟨G',h1,h2,W6 h3⟩,hq⟩))
def KX(B:jg)(X:α->TV B.S)(a:α):AV->St->Prop:=λy s=>ep (PN y s).1=(X a).er B.E
theorem tf{f:FuncId}{args:List (TV B.S)}{X:α->TV B.S}{a:α}(h:RT B P (nF P f) none (J8 P (rF P f).toArray (KX B X a)) ⟨.run (cF P f),[],Ky args 0,⟨[],0⟩⟩)
  (hx:((EM P f).isSome&&Nat.ble args.length (nF P f)&&DW args&&(X a).cl)=true:=by kernel_rfl):dg B P f args X a:=by
 simp only[fE]at hx;obtain⟨⟨⟨h1,h2⟩,h3⟩,h4⟩:=hx;refine Kz (og h3) (BL h4) ?_;have h:=h.v;obtain⟨⟨n,rs,c⟩,hb⟩:=Bp.1 h1;have e1:nF P f=n:=by simp[nF,hb]
 have e2:rF P f=rs:=by simp[rF,hb]
 have e3:cF P f=c:=by simp[cF,hb]
 rw[e1,e2,e3]at h;rw[e1]at h2;refine RE (s:=St.nil) n rs c _ hb I4.symm (by rw[im];exact h2) rfl h
def Nt(B:jg)(P:Program)(bX:dU B.S)(s:dZ B.S):List ResultVar->Option (List (TV B.S))
 | []=>some []
 |r::l=>match(match r with
  |.tmp t=>bJ bX t
  |.cell t ty=>match bJ bX t with
   |some p=>(match IH B P ty p s with
    |.ok v _=>some v
    |_=>none)
   |none=>none)with
  |some x=>match Nt B P bX s l with
   |some xs=>some (x::xs)
   |none=>none
  |none=>none
def l7{S:Nat->Type}(x:TV S)(s:dZ S):TV S×dZ S×jh:=match x with
 |.a (.ms id st n)=>(match bJ s.heap id with
  |some (.ls _ c xs m _)=>bif Nat.beq st 0&&iJ s.heap id then(.l false c xs,⟨eN s.heap id,s.cr⟩,[(.mp 0 0 n,.mp 0 0 m)])else(x,s,[])
  |some (.cW _ l)=>bif Nat.beq st 0&&iJ s.heap id then(.s false l,⟨eN s.heap id,s.cr⟩,[(.mp 0 0 n,.mp 0 0 l.length)])else(x,s,[])
  |_=>(x,s,[]))
 |x=>(x,s,[])
def l8{S:Nat->Type}(f:TV S->dZ S->TV S×dZ S×jh):List (TV S)->dZ S->List (TV S)×dZ S×jh
 | [],s=>([],s,[])
 |x::r,s=>match f x s with
  |(y,s1,q)=>match l8 f r s1 with
   |(l,s2,q2)=>(y::l,s2,q++q2)
def uE{S:Nat->Type}(x:TV S)(s:dZ S):TV S×dZ S×jh:=match x with
 |.agg l=>(match l8 l7 l s with
  |(l,s,q)=>(.agg l,s,q))
 |x=>l7 x s
def EN{S:Nat->Type}(x:TV S)(s:dZ S):TV S×dZ S×jh:=match x with
 |.eC l=>(match l8 uE l s with
  |(l,s,q)=>(.eC l,s,q))
 |x=>uE x s
def Qt(B:jg)(f:TV B.S->dZ B.S->TV B.S×dZ B.S×jh)(g:AV->St->AV×St):Prop:= ∀x s,(f x s).1.cl=true->(∀p∈(f x s).2.2,p.1=p.2)->g (x.er B.E) (dA B s)=((f x s).1.er B.E,dA B (f x s).2.1)
theorem C6{x:AV}{s:St}(h:x.dI=true):qC x s=(x,s):=by
 cases x<;>first|rfl|cases h
theorem zq:Qt B l7 qC:=by
 intro x s hc hq;unfold l7 at hc hq |-
 split at hc
 ·rename_i id st n;split at hc
  ·rename_i cN c xs m hm hg;cases hb:Nat.beq st 0&&iJ s.heap id with
   |false=>simp[hb,TV.cl,AV.dI]at hc
   |true=>
    simp only[hg,hb,dt]at hq |-
    simp only[fE]at hb;have e:=jn hb.1;subst e;have:=hq _ (by simp:((AV.mp 0 0 n),(AV.mp 0 0 m))∈_);simp only[AV.mp.injEq]at this;have hn:=this.2.2;subst hn;subst hm;simp only[TV.er,qC,dE hg,fS];rw[dP (by simp)];simp[mO hb.2,tP];rfl
  ·rename_i cN l hg;cases hb:Nat.beq st 0&&iJ s.heap id with
   |false=>simp[hb,TV.cl,AV.dI]at hc
   |true=>
    simp only[hg,hb,dt]at hq |-
    simp only[fE]at hb;have e:=jn hb.1;subst e;have:=hq _ (by simp:((AV.mp 0 0 n),(AV.mp 0 0 l.length))∈_);simp only[AV.mp.injEq]at this;have hn:=this.2.2;subst hn;simp only[TV.er,qC,dE hg,fS];rw[dP (by simp[im])];simp[mO hb.2,tP,im];rfl
  ·simp[TV.cl,AV.dI]at hc
 ·rename_i x _;simp only at hc |-
  exact C6 (BL hc)
theorem uF{f:TV B.S->dZ B.S->TV B.S×dZ B.S×jh}{g:AV->St->AV×St}(h:Qt B f g): ∀(l:List (TV B.S))(s:dZ B.S),DW (l8 f l s).1=true->(∀p∈(l8 f l s).2.2,p.1=p.2)->lW g (eB B.E l) (dA B s)=(eB B.E (l8 f l s).1,dA B (l8 f l s).2.1)
 | [],s,_,_=>rfl
 |x::r,s,hc,hq=>by
  simp only[l8]at hc hq |-
  simp only[DW,fE]at hc;have h1:=h x s hc.1 (λp hp=>hq p (DQ _ hp));have h2:=uF h r _ hc.2 (λp hp=>hq p (Ga _ hp));simp only[eB,lW,h1,h2]
theorem EO:Qt B uE ul:=by
 intro x s hc hq;rcases Classical.em (∃l,x=.agg l)with⟨l,rfl⟩|hx
 ·have:=uF zq l s hc hq;simp only[TV.er,ul,this,uE]
 ·have e:uE x s=l7 x s:=by
    unfold uE;split
    ·exact absurd ⟨_,rfl⟩ hx
    ·rfl
  rw[e]at hc hq |-
  have h0:=zq x s hc hq;have:ul (x.er B.E) (dA B s)=qC (x.er B.E) (dA B s)\/ ∃l,x.er B.E=.agg l:=by
    generalize x.er B.E=y;cases y<;>first|exact .inl rfl|exact .inr ⟨_,rfl⟩
  rcases this with h|⟨l,hl⟩
  · rw[h];exact h0
  ·
    have Ed: ∀(l:List AV)(s:St),fj l=true->lW qC l s=(l,s):=by
     intro l
     induction l with
     |nil=>intro s _;rfl
     |cons a r ih=>
      intro s hc;simp only[fj,fE]at hc;simp only[lW,C6 hc.1,ih s hc.2]
    have he:l7 x s=(x,s,[]):=by
     unfold l7;split
     ·rename_i id st n;simp[TV.er]at hl
     ·rfl
    rw[he]at hc |-
    have hc:=BL hc;rw[hl]at hc |-
    simp only[ul,Ed l _ hc]
theorem I5:Qt B EN PN:=by
 intro x s hc hq;rcases Classical.em (∃l,x=.eC l)with⟨l,rfl⟩|hx
 ·have:=uF EO l s hc hq;simp only[TV.er,PN,this,EN]
 ·have e:EN x s=uE x s:=by
   unfold EN;split
   ·exact absurd ⟨_,rfl⟩ hx
   ·rfl
  rw[e]at hc hq |-
  have h0:=EO x s hc hq;have:PN (x.er B.E) (dA B s)=ul (x.er B.E) (dA B s)\/ ∃l,x.er B.E=.eC l:=by
   generalize x.er B.E=y;cases y<;>first|exact .inl rfl|exact .inr ⟨_,rfl⟩
  rcases this with h|⟨l,hl⟩
  ·rw[h];exact h0
  ·have aaA: ∀(x:AV)(s:St),x.dI=true->ul x s=(x,s):=by
    intro x s hc;cases x<;>first|rfl|(cases hc;done)|skip
    rename_i l;have: ∀(l:List AV)(s:St),fj l=true->lW qC l s=(l,s):=by
     intro l
     induction l with
     |nil=>intro s _;rfl
     |cons a r ih=>
      intro s hc;simp only[fj,fE]at hc;simp only[lW,C6 hc.1,ih s hc.2]
    simp only[ul,this l s hc]
   have Ed: ∀(l:List AV)(s:St),fj l=true->lW ul l s=(l,s):=by
    intro l
    induction l with
    |nil=>intro s _;rfl
    |cons a r ih=>
     intro s hc;simp only[fj,fE]at hc;simp only[lW,aaA a s hc.1,ih s hc.2]
   have he:uE x s=(x,s,[]):=by
    unfold uE;split
    ·simp[TV.er]at hl
    ·unfold l7;split
     ·simp[TV.er]at hl
     ·rfl
   rw[he]at hc |-
   have hc:=BL hc;rw[hl]at hc |-
   simp only[PN,Ed l _ hc]
theorem C7{bX:dU B.S}{s:dZ B.S}: ∀{rs:List ResultVar}{l:List (TV B.S)},Nt B P bX s rs=some l->wG P (eY B bX) (dA B s) rs=some (eB B.E l)
 | [],l,h=>by cases h;rfl
 |r::rs,l,h=>by
  unfold Nt at h;split at h
  ·rename_i x hx;split at h
   ·rename_i xs hxs;cases h;have h1:L6 P (eY B bX) (dA B s) r=some (x.er B.E):=by
     split at hx
     ·simp only[L6,lP,hx,gX]
     ·rename_i t ty;split at hx
      ·rename_i p hp;split at hx
       ·rename_i v s' hv;cases hx;obtain⟨v',e,e1,e2⟩:=ED (B:=B) (P:=P) (s:=s) (t:=ty) (p:=p) (λa b=>a=x/\b=s') (by rw[hv];exact⟨rfl,rfl⟩);subst e1;simp only[L6,lP,hp,gX,e]
       ·cases hx
      ·cases hx
    simp only[wG,h1,C7 hxs,eB]
   ·cases h
  ·cases h
def Pk{S:Nat->Type}:List (Nat×TB S)->List (Nat×TB S)
 | []=>[]
 |(i,b)::r=>match b with
  |.raw .gK=>eN (Pk r) i
  |b=>(i,b)::Pk r
def EP{S:Nat->Type}(s:dZ S):dZ S:=⟨Pk s.heap,s.cr⟩
theorem C8: ∀{h:List (Nat×TB B.S)}{id:Nat}{b:TB B.S},bJ (Pk h) id=some b->bJ h id=some b
 | [],id,b,h=>h
 |(i,c)::r,id,b,h=>by
  unfold Pk at h;split at h
  ·rw[fU]at h;split at h
   ·cases h
   ·rename_i eU;simp only[cZ];rw[dY eU];exact C8 h
  ·simp only[cZ]at h |-
   split at h
   ·rename_i e;rw[dP e];exact h
   ·rename_i e;rw[dY e];exact C8 h
theorem C9{β:Type}{p:Nat×β}{i:Nat}: ∀{l:List (Nat×β)},p∈eN l i->p∈l
 | [],h=>h
 |(k,x)::r,h=>by
  simp only[eN]at h;split at h
  ·exact JO _ (C9 h)
  ·simp only[mZ]at h |-
   rcases h with h|h
   ·exact .inl h
   ·exact .inr (C9 h)
theorem Hq{p:Nat×TB B.S}: ∀{l:List (Nat×TB B.S)},p∈Pk l->p∈l
 | [],h=>h
 |(k,x)::r,h=>by
  unfold Pk at h;split at h
  ·exact JO _ (Hq (C9 h))
  ·simp only[mZ]at h |-
   rcases h with h|h
   ·exact .inl h
   ·exact .inr (Hq h)
theorem EQ{i:Nat}: ∀{h:List (Nat×TB B.S)},(∀p∈h,gm p.2=true->gb p.1 i=true/\p.1≠i)->iJ h i=true
 | [],_=>rfl
 |(k,x)::r,h=>by
  have ih:=EQ (i:=i) (h:=r) λp hp=>h p (by simp[hp]);have h0:=h (k,x) (by simp);cases x with
  |fr c cl pre n post=>
   obtain⟨h1,h2⟩:=h0 rfl;simp only[iJ,h1,ih,Bool.and_true,U9,qn];cases hq:Nat.beq k i with
   |false=>rfl
   |true=>exact absurd (jn hq) h2
  |_=>exact ih
theorem RO: ∀{h:List (Nat×TB B.S)},pz h=true->mN B (Pk h)=mN B h
 | [],_=>rfl
 |(k,x)::r,hw=>by
  simp only[pz,fE]at hw;have ih:=RO hw.2;unfold Pk;split
  ·have hd:iJ (Pk r) k=true:=EQ λp hp hf=>by
    have:=pA.1 hw.1 p (Hq hp);simp only[mz,hf,dt,fE,qn]at this;exact⟨this.2.1,λe=>Bb this.2.2 e.symm⟩
   rw[(IM hd).1,ih];rfl
  ·simp only[mN,ih]
def KA(B:jg)(h:List (Nat×TB B.S)):Bool:=h.all λp=>!(um (fS B p.2))
theorem xS{a b:List (Nat×gU)}:nL (a++b)=(nL a&&nL b):=by
 induction a with
 |nil=>rfl
 |cons p r ih=>obtain⟨k,x⟩:=p;simp only[yh,nL,ih,Bool.and_assoc]
theorem W7{l:List (ZB B.S)}: ∀{i:Nat},nL (j0 B i l)=true:=by
 induction l with
 |nil=>intro i;rfl
 |cons z r ih=>intro i;simp only[j0,nL,ih,MC,um];rfl
theorem RP{c w:Nat}{l:List (B.S c)}: ∀{i:Nat},nL (gy B c w i l)=true:=by
 induction l with
 |nil=>intro i;rfl
 |cons y r ih=>
  intro i;unfold gy;cases Nat.blt i cU
  ·rfl
  ·simp only[dt,xS,W7,ih];rfl
theorem xT{h:List (Nat×TB B.S)}{n:Nat}(hd:KA B h=true):nL (dA B ⟨h,n⟩).heap=true:=by
 simp only[dA,xS,fE];constructor
 ·induction h with
  |nil=>rfl
  |cons p r ih=>
   obtain⟨k,x⟩:=p;simp only[KA,Yk,fE]at hd;simp only[kP,nL,hd.1,ih (by simpa[KA]using hd.2)];rfl
 ·clear hd
  induction h with
  |nil=>rfl
  |cons p r ih=>
   obtain⟨k,x⟩:=p;simp only[mN,xS,ih,Bool.and_true];unfold eX;split
   ·rename_i c cl pre m post;cases cl
    ·simp only[dD,xS,RP];rfl
    ·simp only[dt,sA,RP]
   ·rfl
def BN(B:jg)(s:dZ B.S):Bool:=pz s.heap&&KA B (EP s).heap
theorem ER{s:dZ B.S}(h:BN B s=true):GI (dA B (EP s)) (dA B s):=by
 simp only[BN,fE]at h;obtain⟨hw,hd⟩:=h;refine⟨λid b hg=>⟨?_,λe=>oQ (xT (n:=s.cr) hd) id (by rw[<-e];exact hg)⟩,eD _⟩;simp only[dA,EP,RO hw]at hg |-
 rw[dp]at hg |-
 split at hg
 ·rename_i x hx;cases hg;rw[gi]at hx;obtain⟨c,hc,e⟩:=D5.1 hx;rw[gi,C8 hc,<-e];rfl
 ·obtain⟨w,b',h1,h2⟩:=zh hw hg;rw[(IU hw h1 h2).1];exact hg
def Nu(B:jg)(P:Program)(rs:List ResultVar)(M:TM B.S):Option (AV×jh):=match M.o with
 |.out e=>(match M.k with
  | []=>bif (match e with|.ret=>true|.normal=>true|_=>false)&&BN B M.s then(match Nt B P M.bX M.s rs with
   |some l=>(match EN (match l with| [x]=>x|l=>.eC l) (EP M.s)with
    |(v,_,q)=>bif v.cl then some (ep (v.er B.E),q)else none)
   |none=>none)else none
  |_=>none)
 |_=>none
def aaB(o:Option (AV×jh)):Option AV:=o.map (·.1)
def W8(o:Option (AV×jh)):jh:=match o with
 |some (_,q)=>q
 |none=>[]
theorem cM{rs:List ResultVar}{X:α->TV B.S}{x a:α}(h:some x=some a)(hx:(aaB (Nu B P rs (G B P N M).1),(W8 (Nu B P rs (G B P N M).1)).map Prod.fst,(G B P N M).2.map Prod.fst)=
   (some ((X x).er B.E),(W8 (Nu B P rs (G B P N M).1)).map Prod.snd,(G B P N M).2.map Prod.snd):=by kernel_rfl):RT B P N none (J8 P rs.toArray (KX B X a)) M:=by
 cases h;simp only[Prod.mk.injEq]at hx;obtain⟨h1,h2,h3⟩:=hx;refine qT h3 ⟨?_⟩;have h2:=eo h2;generalize(G B P N M).1=g at *;obtain⟨o,k,bX,s⟩:=g;cases hr:Nu B P rs ⟨o,k,bX,s⟩with
 |none=>rw[hr]at h1;cases h1
 |some p=>
  obtain⟨v,q⟩:=p;rw[hr]at h1 h2;have Lm:v=(X x).er B.E:=Option.some.inj h1;have Ka: ∀p∈q,p.1=p.2:=h2;clear h1 h2;unfold Nu at hr;split at hr
  ·rename_i e ho;simp only at ho;subst ho;split at hr
   ·rename_i hk;simp only at hk;subst hk;generalize hq0:(match e with|.ret=>true|.normal=>true|_=>false)=b0 at hr;cases hq:(b0&&BN B s)with
    |false=>simp only[hq,dD]at hr;cases hr
    |true=>
     simp only[hq,dt]at hr;simp only[fE]at hq;have he:e=.ret\/e=.normal:=by
      rw[hq.1]at hq0;cases e<;>simp_all
     split at hr
     ·rename_i l hl;have hl:=C7 hl;generalize hy:(match l with| [x]=>x|l=>TV.eC l)=y at hr;have Hr:lU P rs.toArray (eY B bX) (dA B s)=some (y.er B.E):=by
       unfold lU;simp only[hl];subst hy;cases l with
       |nil=>rfl
       |cons x r=>cases r<;>rfl
      cases hc:(EN y (EP s)).1.cl with
      |false=>simp only[hc,dD]at hr;cases hr
      |true=>
       simp only[hc,dt]at hr;cases hr;have hf:=I5 (B:=B) y (EP s) hc Ka;have ES:GI (dA B (EP s)) (dA B s):=ER hq.2;have hK:KX B X x (y.er B.E) (dA B (EP s)):=by
        unfold KX;rw[hf];exact Lm
       rcases he with rfl|rfl
       ·exactλG w a hn=>hn.after ⟨_,_,Hr,ES,hK⟩
       ·exactλG w a hn=>hn.after ⟨_,_,Hr,ES,hK⟩
     ·cases hr
   ·cases hr
  ·cases hr
end
end Go.Am
