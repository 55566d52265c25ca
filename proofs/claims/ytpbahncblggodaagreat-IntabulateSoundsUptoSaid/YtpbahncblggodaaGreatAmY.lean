/- The logic AM, Y: walks on typed states: functions, ways that meet, loops. -/
import Derived.Test.YtpbahncblggodaaGreatAmF
set_option linter.all false
namespace Go.Am
open Go.RowKit
abbrev iH:=List (AV×AV)
def rn(a b:Option iH):Option iH:=match a with
 |some x=>match b with
  |some y=>some (x++y)
  |none=>none
 |none=>none
theorem fQ{a b:Option iH}{q:iH}(h:rn a b=some q)(hq: ∀p∈q,p.1=p.2):(∃x,a=some x/\ ∀p∈x,p.1=p.2)/\ ∃y,b=some y/\ ∀p∈y,p.1=p.2:=by
 unfold rn at h
 split at h
 ·split at h
  ·cases h
   exact⟨⟨_,rfl,λp hp=>hq p (CF _ hp)⟩,_,rfl,λp hp=>hq p (EK _ hp)⟩
  ·cases h
 ·cases h
section
variable {S:Nat->Type}
mutual
def TV.cl:TV S->Bool
 |.a x=>x.dv
 |.i _ _=>true
 |.b _=>true
 |.z _=>true
 |.v _ _=>true
 |.l _ _ _=>true
 |.s _ cs=>DD cs
 |.agg cs=>DD cs
 |.dW cs=>DD cs
 |.ip cs=>DD cs
 |.fn _ cs=>DD cs
 |.pt _ _ _=>false
def DD:List (TV S)->Bool
 | []=>true
 |x::r=>x.cl&&DD r
end
end
section
variable {B:iP}
theorem kN(c:Nat)(x:List (B.S c)):eG (x.map (B.E c))=true:=dY.2 λy hy=>by
 obtain⟨z,_,rfl⟩:=kb.1 hy
 exact B.hc c z
mutual
theorem Az: ∀{x:TV B.S},x.cl=true->(x.er B.E).dv=true
 |.a x,h=>h
 |.i _ _,_=>rfl
 |.b _,_=>rfl
 |.z _,_=>rfl
 |.v c x,_=>B.hc c x
 |.l _ c x,_=>kN c x
 |.s _ cs,h=>ng (l:=cs) h
 |.agg cs,h=>ng (l:=cs) h
 |.dW cs,h=>ng (l:=cs) h
 |.ip cs,h=>ng (l:=cs) h
 |.fn _ cs,h=>ng (l:=cs) h
 |.pt _ _ _,h=>by cases h
theorem ng: ∀{l:List (TV B.S)},DD l=true->eG (dV B.E l)=true
 | [],_=>rfl
 |x::r,h=>by
  simp only[DD,eW]at h
  simp only[dV,eG,eW]
  exact⟨Az h.1,ng h.2⟩
end
end
section
variable (B:iP)
def R7(x:TV B.S):Option (List AV):=match x.norm B with
 |.l _ c y=>some (y.map (B.E c))
 |.s _ cs=>some (dV B.E cs)
 |.a (.sl _ l)=>some l
 |_=>none
def coA(ok:Nat->Bool)(π:Nat->Nat)(x y:AV):Option iH:=match x with
 |.mp id e o=>(match y with
  |.mp fq e' o'=>bif ok id&&Nat.beq (π id) fq then some [(.mp 0 e o,.mp 0 e' o')]else none
  |_=>none)
 |.ms id a b=>(match y with
  |.ms fq a' b'=>bif ok id&&Nat.beq (π id) fq then some [(.mp 0 a b,.mp 0 a' b')]else none
  |.sl true []=>some [(.mp 0 0 b,.mp 0 0 0)]
  |_=>none)
 |.kt id=>(match y with
  |.kt fq=>bif ok id&&Nat.beq (π id) fq then some []else none
  |_=>none)
 |x=>bif x.dv then some [(x,y)]else none
def B0{S:Nat->Type}:TV S->Option (Nat×Nat×Nat)
 |.pt id a b=>some (id,a,b)
 |.a (.ms id a b)=>some (id,a,b)
 |_=>none
def sq{S:Nat->Type}:TV S->Bool
 |.a (.ms _ a _)=>Nat.beq a 0
 |_=>false
def L5(b b':Nat)(x y:Option (TB B.S)):Option iH:=match x with
 |some (.ls _ c x n _)=>(match y with
  |some (.ls _ c' x' n' _)=>some [(.mp 0 0 b,.mp 0 0 n),(.mp 0 0 b',.mp 0 0 n'),(.sl false (x.map (B.E c)),.sl false (x'.map (B.E c')))]
  |some (.cE _ l)=>some [(.mp 0 0 b,.mp 0 0 n),(.mp 0 0 b',.mp 0 0 l.length),(.sl false (x.map (B.E c)),.sl false (dV B.E l))]
  |_=>none)
 |_=>none
abbrev NN(S:Nat->Type):=List (Nat×TB S)×List (Nat×TB S)
def R8(hp:NN B.S)(ok:Nat->Bool)(π:Nat->Nat)(w:Bool)(id a b:Nat)(y:TV B.S):Option iH:=match B0 y with
 |some (fq,a',b')=>bif ok id&&Nat.beq (π id) fq then(match(bif w&&sq y then L5 B b b' (bH hp.1 id) (bH hp.2 fq)else none)with
   |some q=>some q
   |none=>some [(.mp 0 a b,.mp 0 a' b')])else none
 |none=>match y with
  |.a (.sl true [])=>some [(.mp 0 0 b,.mp 0 0 0)]
  |_=>none
def JX{S:Nat->Type}(f:TV S->TV S->Option iH):List (TV S)->List (TV S)->Option iH
 | [],[]=>some []
 |x::r,y::l=>rn (f x y) (JX f r l)
 |_,_=>none
def B3{S:Nat->Type}(cs:List (TV S)):Bool:=cs.any λx=>match x with
 |.a (.sl true [])=>true
 |_=>false
def aL(S:Nat->Type):List AV->List (TV S)
 | []=>[]
 |x::r=>.a x::aL S r
theorem L6: ∀{l:List AV},dV B.E (aL B.S l)=l
 | []=>rfl
 |x::r=>by simp only[aL,dV,TV.er,L6 (l:=r)]
def F1(hp:NN B.S)(ok:Nat->Bool)(π:Nat->Nat):Nat->TV B.S->TV B.S->Option iH
 |0,_,_=>none
 |n+1,x,y=>match B0 x with
  |some (id,a,b)=>R8 B hp ok π (sq x) id a b y
  |none=>match x with
   |.a x=>(match y with
    |.a y=>coA ok π x y
    |y=>bif x.dv then some [(x,y.er B.E)]else none)
   |.l false c x=>(match R7 B y with
    |some l=>some [(.sl false (x.map (B.E c)),.sl false l)]
    |none=>none)
   |.fn g cs=>(match y with
    |.fn g' cs'=>bif Nat.beq g g' then JX (F1 hp ok π n) cs cs' else none
    |_=>none)
   |.dW cs=>(match y with
    |.dW cs'=>JX (F1 hp ok π n) cs cs'
    |_=>none)
   |.agg cs=>(match y with
    |.agg cs'=>JX (F1 hp ok π n) cs cs'
    |.a (.agg l)=>bif DD cs then some [(.agg (dV B.E cs),.agg l)]else JX (F1 hp ok π n) cs (aL B.S l)
    |y=>bif DD cs then some [(.agg (dV B.E cs),y.er B.E)]else none)
   |.v c x=>(match y with
    |.agg cs'=>bif B3 cs' then F1 hp ok π n (B.X c x) (.agg cs')else some [(B.E c x,.agg (dV B.E cs'))]
    |.a (.agg l)=>bif B3 (aL B.S l)then F1 hp ok π n (B.X c x) (.agg (aL B.S l))else some [(B.E c x,.agg l)]
    |y=>some [(B.E c x,y.er B.E)])
   |x=>bif x.cl then some [(x.er B.E,y.er B.E)]else none
def OZ(a b:Option (Option Nat)):Bool:=match a with
 |none=>(match b with
  |none=>true
  |_=>false)
 |some none=>(match b with
  |some none=>true
  |_=>false)
 |some (some i)=>(match b with
  |some (some j)=>Nat.beq i j
  |_=>false)
theorem O0{a b:Option (Option Nat)}(h:OZ a b=true):a=b:=by
 unfold OZ at h
 split at h<;>split at h<;>first|rfl|(cases h;done)|rw[iU h]
def L7{S:Nat->Type}:List (Nat×TV S)->List (Nat×TV S)->Bool
 | [],[]=>true
 |(i,_)::r,(j,_)::l=>Nat.beq i j&&L7 r l
 |_,_=>false
def F2{S:Nat->Type}:List (Nat×TV S)->List (TV S)
 | []=>[]
 |(_,x)::r=>x::F2 r
def Jn{S:Nat->Type}:List (Nat×TV S)->List Nat
 | []=>[]
 |(i,_)::r=>i::Jn r
theorem Hz{S:Nat->Type}: ∀{a b:List (Nat×TV S)},L7 a b=true->Jn a=Jn b
 | [],[],_=>rfl
 |(i,_)::r,(j,_)::l,h=>by
  simp only[L7,eW]at h
  simp only[Jn,iU h.1,Hz h.2]
 | [],_::_,h=>by cases h
 |_::_,[],h=>by cases h
theorem HA: ∀{bI:List (Nat×TV B.S)},ez B bI=zx (Jn bI) (dV B.E (F2 bI))
 | []=>rfl
 |(i,x)::r=>by simp only[ez,Jn,F2,dV,zx,HA (bI:=r)]
def yl(hp:NN B.S)(ok:Nat->Bool)(π:Nat->Nat)(b b':TB B.S):Option iH:=match b with
 |.cE n l=>(match b' with
  |.cE n' l'=>bif Nat.beq n n' then JX (F1 B hp ok π 4) l l' else none
  |.ls n' c x _ _=>bif Nat.beq n n'&&DD l then some [(.sl false (dV B.E l),.sl false (x.map (B.E c)))]else none
  |_=>none)
 |.ls n c x _ _=>(match b' with
  |.cE n' l'=>bif Nat.beq n n' then some [(.sl false (x.map (B.E c)),.sl false (dV B.E l'))]else none
  |.ls n' c' x' _ _=>bif Nat.beq n n' then some [(.sl false (x.map (B.E c)),.sl false (x'.map (B.E c')))]else none
  |_=>none)
 |.raw b=>(match b with
  |.gb=>(match b' with
   |.raw .gb=>some []
   |_=>none)
  |_=>none)
 |.lp c bI st pd=>(match b' with
  |.lp c' env' zl Zt=>bif Nat.beq c c'&&Nat.beq st zl&&OZ pd Zt&&L7 bI env' then JX (F1 B hp ok π 4) (F2 bI) (F2 env')else none
  |_=>none)
 |.rows n c x v k=>(match b' with
  |.rows n' c' x' v' k'=>bif Nat.beq n n' then rn (some [(.agg [.sl false (x.map (B.E c)),.mp k 0 0],.agg [.sl false (x'.map (B.E c')),.mp k' 0 0])]) (JX (F1 B hp ok π 4) v v')else none
  |_=>none)
 |.fm n c w cl pre ky post=>(match b' with
  |.fm n' c' w' R9 L8 L9 DE=>bif Nat.beq n n'&&Nat.beq c c'&&Nat.beq (π w) w'&&(cl==R9)&&Nat.blt 0 (B.K c)then(match bH hp.1 w with
    |some (.fr c2 Vw Vx n2 Qn)=>bif Nat.beq c2 c&&(Vw==cl)&&Nat.beq n2 ky.length then rn (some [(.agg [.sl false (pre.map (B.E c)),.sl false (post.map (B.E c)),.sl false (pre.map (B.E c)),.sl false (post.map (B.E c))],.agg [.sl false (L8.map (B.E c')),.sl false (DE.map (B.E c')),.sl false (Vx.map (B.E c2)),.sl false (Qn.map (B.E c2))])]) (JX (F1 B hp ok π 4) ky L9)else none
    |_=>none)else none
  |.ls n' c' x' _ _=>(match pre with
   | []=>(match ky with
    | []=>(match post with
     | []=>bif Nat.beq n n' then some [(.sl false [],.sl false (x'.map (B.E c')))]else none
     |_=>none)
    |_=>none)
   |_=>none)
  |_=>none)
 |.fr c cl pre n post=>(match b' with
  |.fr c' R9 L8 n' DE=>bif Nat.beq c c'&&(cl==R9)&&Nat.beq n n'&&Nat.blt 0 (B.K c)then some [(.agg [.sl false (pre.map (B.E c)),.sl false (post.map (B.E c))],.agg [.sl false (L8.map (B.E c')),.sl false (DE.map (B.E c'))])]else none
  |_=>none)
def Xs(b:TB B.S):Option iH:=match b with
 |.cE n l=>bif Nat.blt 0 n then some [(.sl false (dV B.E l),.sl false [])]else none
 |.ls n c x _ _=>bif Nat.blt 0 n then some [(.sl false (x.map (B.E c)),.sl false [])]else none
 |.raw _=>none
 |.lp _ _ _ _=>none
 |.rows _ _ _ _ _=>none
 |.fm n _ _ _ pre ky post=>(match pre with
  | []=>(match ky with
   | []=>(match post with
    | []=>bif Nat.blt 0 n then some []else none
    |_=>none)
   |_=>none)
  |_=>none)
 |.fr _ _ pre _ post=>(match pre with
  | []=>(match post with
   | []=>some []
   |_=>none)
  |_=>none)
def Sa(hp:NN B.S)(ok:Nat->Bool)(π:Nat->Nat)(bI:dD B.S):dD B.S->Option iH
 | []=>some []
 |(t,x)::r=>rn (match bH bI t with
  |some y=>F1 B hp ok π 4 x y
  |none=>none) (Sa hp ok π bI r)
def Ma(hp:NN B.S)(ok:Nat->Bool)(π:Nat->Nat)(bQ:Nat)(s:dI B.S):List (Nat×TB B.S)->Option iH
 | []=>some []
 |(id,b)::r=>rn (match bH s.heap (π id)with
  |some b'=>yl B hp ok π b b'
  |none=>bif Nat.ble bQ id&&Nat.ble s.bS (π id)then Xs B b else none) (Ma hp ok π bQ s r)
def B4{S:Nat->Type}:TB S->Bool
 |.fr _ _ pre _ post=>(match pre with
  | []=>(match post with
   | []=>true
   |_=>false)
  |_=>false)
 |b=>!(fI b)
def Mb(bQ:Nat)(L:List (Nat×Nat))(S2 s:dI B.S):Bool:=
 L.all (λp=>Nat.ble bQ p.1)&&S2.heap.all (λp=>Nat.blt p.1 S2.bS&&(!(fI p.2)||Nat.blt (pi L p.1) s.bS||B4 p.2)&&S2.heap.all λq=>Nat.beq p.1 q.1||!(Nat.beq (pi L p.1) (pi L q.1))||Nat.ble s.bS (pi L p.1))&&Nat.ble bQ S2.bS&&
  (Ak (kh B s.heap) (kh B S2.heap)&&s.heap.all λp=>!tg (fB B p.2)||Nat.blt p.1 bQ)&&
  (pc S2.heap&&pc s.heap&&Al S2.bS S2.heap&&Al s.bS s.heap&&(jm L s.bS S2.heap).all λv=>Nat.ble bQ v.1||Nat.beq v.1 v.2)
def Ll(bQ:Nat)(L:List (Nat×Nat))(E2:dD B.S)(S2:dI B.S)(bI:dD B.S)(s:dI B.S):Option iH:=
 bif Mb B bQ L S2 s then rn (Sa B (S2.heap,s.heap) (gj bQ (df B S2).heap) (pw L (jm L s.bS S2.heap)) bI E2) (Ma B (S2.heap,s.heap) (gj bQ (df B S2).heap) (pw L (jm L s.bS S2.heap)) bQ s S2.heap)else none
end
section
variable {B:iP} {ok:Nat->Bool} {π:Nat->Nat} {hp:NN B.S}
theorem HB{x:TV B.S}{id a b:Nat}(h:B0 x=some (id,a,b)):x.er B.E=.ms id a b:=by
 unfold B0 at h
 split at h<;>first|(cases h;rfl)|cases h
theorem O1{x:TV B.S}{l:List AV}(h:R7 B x=some l): ∃b,x.er B.E=.sl b l:=by
 unfold R7 at h
 rw[<-fk x]
 generalize x.norm B=y at h
 split at h<;>first|(cases h;exact⟨_,rfl⟩)|cases h
theorem one{a b:AV}{q:iH}(h:some [(a,b)]=some q)(hq: ∀p∈q,p.1=p.2):a=b:=by cases h;exact hq (a,b) (by simp)
theorem Sb{x y:AV}{q:iH}(h:coA ok π x y=some q)(hq: ∀p∈q,p.1=p.2):Co ok π x y:=by
 have gen: ∀{x:AV},(bif x.dv then some [(x,y)]else none)=some q->Co ok π x y:=λ{x}h=>by
  cases hc:x.dv with
  |false=>rw[hc]at h;cases h
  |true=>
   rw[hc]at h
   have:=one h hq
   subst this
   exact .c hc
 cases x with
 |mp id e o=>
  cases y<;>first|(cases h;done)|skip
  rename_i fq e' o'
  have h:(bif ok id&&Nat.beq (π id) fq then some [(AV.mp 0 e o,AV.mp 0 e' o')]else none)=some q:=h
  cases hb:(ok id&&Nat.beq (π id) fq)with
  |false=>rw[hb]at h;cases h
  |true=>
   rw[hb]at h
   simp only[eW]at hb
   have:=one h hq
   cases this
   exact .mp hb.1 (iU hb.2)
 |ms id a b=>
  cases y<;>first|(cases h;done)|skip
  ·rename_i f l
   cases f<;>cases l<;>first|(cases h;done)|skip
   have:=one h hq
   cases this
   exact .n
  ·rename_i fq a' b'
   have h:(bif ok id&&Nat.beq (π id) fq then some [(AV.mp 0 a b,AV.mp 0 a' b')]else none)=some q:=h
   cases hb:(ok id&&Nat.beq (π id) fq)with
   |false=>rw[hb]at h;cases h
   |true=>
    rw[hb]at h
    simp only[eW]at hb
    have:=one h hq
    cases this
    exact .ms hb.1 (iU hb.2)
 |bool _=>exact gen h
 |int _ _=>exact gen h
 |str _=>exact gen h
 |ij=>exact gen h
 |mD=>exact gen h
 |sl _ _=>exact gen h
 |ip _=>exact gen h
 |mc _ _ _ _=>exact gen h
 |fn _ _=>exact gen h
 |kt id=>
  cases y<;>first|(cases h;done)|skip
  rename_i fq
  have h:(bif ok id&&Nat.beq (π id) fq then some []else none)=some q:=h
  cases hb:(ok id&&Nat.beq (π id) fq)with
  |false=>rw[hb]at h;cases h
  |true=>
   simp only[eW]at hb
   exact .y hb.1 (iU hb.2)
 |agg _=>exact gen h
 |dW _=>exact gen h
 |any=>exact gen h
theorem Mc{b b':Nat}{x y:Option (TB B.S)}{q:iH}(h:L5 B b b' x y=some q)(hq: ∀p∈q,p.1=p.2):b=b':=by
 unfold L5 at h
 split at h
 ·rename_i cz c x n hn
  split at h
  ·rename_i RH c' x' n' lY
   cases h
   have h1:=hq (.mp 0 0 b,.mp 0 0 n) (by simp)
   have h2:=hq (.mp 0 0 b',.mp 0 0 n') (by simp)
   have h3:=hq (.sl false (x.map (B.E c)),.sl false (x'.map (B.E c'))) (by simp)
   injection h1 with _ _ h1
   injection h2 with _ _ h2
   injection h3 with _ h3
   have:=congrArg List.length h3
   simp only[mA]at this
   omega
  ·rename_i RH l
   cases h
   have h1:=hq (.mp 0 0 b,.mp 0 0 n) (by simp)
   have h2:=hq (.mp 0 0 b',.mp 0 0 l.length) (by simp)
   have h3:=hq (.sl false (x.map (B.E c)),.sl false (dV B.E l)) (by simp)
   injection h1 with _ _ h1
   injection h2 with _ _ h2
   injection h3 with _ h3
   have:=congrArg List.length h3
   simp only[mA,gA]at this
   omega
  ·cases h
 ·cases h
theorem AA{x:TV B.S}{id a b:Nat}(h:sq x=true)(hm:B0 x=some (id,a,b)):a=0:=by
 unfold sq at h
 split at h
 ·cases hm;exact iU h
 ·cases h
theorem O4{x y:TV B.S}{id a b:Nat}{q:iH}(hx:B0 x=some (id,a,b))(h:R8 B hp ok π (sq x) id a b y=some q)(hq: ∀p∈q,p.1=p.2):Co ok π (.ms id a b) (y.er B.E):=by
 unfold R8 at h
 cases hm:B0 y with
 |some p=>
  obtain⟨fq,a',b'⟩:=p
  rw[hm]at h
  rw[HB hm]
  simp only at h
  cases hb:(ok id&&Nat.beq (π id) fq)with
  |false=>rw[hb]at h;cases h
  |true=>
   rw[hb]at h
   simp only[eW]at hb
   simp only[cond_true]at h
   split at h
   ·rename_i q' hl
    cases h
    cases hw:(sq x&&sq y)with
    |false=>rw[hw]at hl;cases hl
    |true=>
     rw[hw]at hl
     simp only[eW]at hw
     have e1:=AA hw.1 hx
     have e2:=AA hw.2 hm
     subst e1;subst e2
     exact .e hb.1 (iU hb.2) (Mc hl hq)
   ·have:=one h hq
    cases this
    exact .ms hb.1 (iU hb.2)
 |none=>
  rw[hm]at h
  simp only at h
  split at h
  ·have:=one h hq
   cases this
   exact .n
  ·cases h
theorem mn{f:TV B.S->TV B.S->Option iH}(hf: ∀x y q,f x y=some q->(∀p∈q,p.1=p.2)->Co ok π (x.er B.E) (y.er B.E)): ∀{xs ys:List (TV B.S)}{q:iH},JX f xs ys=some q->(∀p∈q,p.1=p.2)->rH ok π (dV B.E xs) (dV B.E ys)
 | [],[],_,_,_=>.z
 |x::r,y::l,q,h,hq=>by
  obtain⟨⟨q1,h1,e1⟩,q2,h2,e2⟩:=fQ h hq
  exact .k (hf x y q1 h1 e1) (mn hf h2 e2)
 | [],_::_,_,h,_=>by cases h
 |_::_,[],_,h,_=>by cases h
theorem jz: ∀{n:Nat}{x y:TV B.S}{q:iH},F1 B hp ok π n x y=some q->(∀p∈q,p.1=p.2)->Co ok π (x.er B.E) (y.er B.E)
 |0,_,_,_,h,_=>by cases h
 |n+1,x,y,q,h,hq=>by
  unfold F1 at h
  split at h
  ·rename_i id a b hm
   rw[HB hm]
   exact O4 hm h hq
  ·rename_i hm
   split at h
   ·rename_i x0
    have gen: ∀{z:AV},(bif x0.dv then some [(x0,z)]else none)=some q->Co ok π x0 z:=λ{z}h=>by
     cases hc:x0.dv with
     |false=>rw[hc]at h;cases h
     |true=>
      rw[hc]at h
      have:=one h hq
      rw[<-this]
      exact .c hc
    split at h
    ·exact Sb h hq
    ·exact gen h
   ·rename_i c x
    split at h
    ·rename_i l hl
     obtain⟨b,hb⟩:=O1 hl
     have:=one h hq
     cases this
     rw[hb]
     exact .s (kN c x)
    ·cases h
   ·rename_i g cs
    split at h
    ·rename_i g' cs'
     cases hb:Nat.beq g g' with
     |false=>simp[hb]at h
     |true=>
      simp only[hb,cond_true]at h
      have e:=iU hb
      subst e
      exact .f (mn (λ_ _ _=>jz) h hq)
    ·cases h
   ·split at h
    ·exact .t (mn (λ_ _ _=>jz) h hq)
    ·cases h
   ·rename_i cs
    split at h
    ·exact .a (mn (λ_ _ _=>jz) h hq)
    ·rename_i l
     cases hc:DD cs with
     |false=>
      simp only[hc,cond_false]at h
      have:=mn (λ_ _ _=>jz) h hq
      rw[L6]at this
      exact .a this
     |true=>
      simp only[hc,cond_true]at h
      have:=one h hq
      show Co ok π (.agg (dV B.E cs)) _
      rw[TV.er,<-this]
      exact .c (ng (B:=B) hc)
    ·cases hc:DD cs with
     |false=>simp[hc]at h
     |true=>
      simp only[hc,cond_true]at h
      have:=one h hq
      rw[<-this]
      exact .c (ng (B:=B) hc)
   ·rename_i c x
    split at h
    ·rename_i cs'
     cases hb:B3 cs' with
     |true=>
      simp only[hb,cond_true]at h
      have:=jz h hq
      rw[B.hX]at this
      exact this
     |false=>
      simp only[hb,cond_false]at h
      have:=one h hq
      show Co ok π (B.E c x) _
      rw[TV.er,<-this]
      exact .c (B.hc c x)
    ·rename_i l
     cases hb:B3 (aL B.S l)with
     |true=>
      simp only[hb,cond_true]at h
      have:=jz h hq
      rw[B.hX,TV.er,L6]at this
      exact this
     |false=>
      simp only[hb,cond_false]at h
      have:=one h hq
      show Co ok π (B.E c x) _
      rw[TV.er,<-this]
      exact .c (B.hc c x)
    ·have:=one h hq
     show Co ok π (B.E c x) _
     rw[<-this]
     exact .c (B.hc c x)
   ·have gen: ∀{z:TV B.S}{w:AV},(bif z.cl then some [(z.er B.E,w)]else none)=some q->Co ok π (z.er B.E) w:=λ{z w}h=>by
     cases hc:z.cl with
     |false=>rw[hc]at h;cases h
     |true=>
      rw[hc]at h
      have:=one h hq
      rw[<-this]
      exact .c (Az hc)
    exact gen h
theorem Md(n:Nat):eG (List.replicate n (AV.sl true []))=true:=by
 induction n with
 |zero=>rfl
 |succ n ih=>simp only[List.replicate_succ,eG,ih,AV.dv,Bool.and_self]
theorem B5(hF:xK B hp.1 ok π){b b':TB B.S}{q:iH}(h:yl B hp ok π b b'=some q)(hq: ∀p∈q,p.1=p.2):Ai ok π (fB B b) (fB B b'):=by
 unfold yl at h
 split at h
 ·rename_i n l
  split at h
  ·rename_i n' l'
   cases hb:Nat.beq n n' with
   |false=>simp[hb]at h
   |true=>
    simp only[hb,cond_true]at h
    have e:=iU hb
    subst e
    exact .cells (mn (λ_ _ _=>jz) h hq)
  ·rename_i n' c x _ _
   cases hb:Nat.beq n n'&&DD l with
   |false=>simp[hb]at h
   |true=>
    simp only[hb,cond_true]at h
    simp only[eW]at hb
    have e:=iU hb.1
    subst e
    have:=one h hq
    injection this with _ this
    simp only[fB,<-this]
    exact .cells (.r (ng (B:=B) hb.2))
  ·cases h
 ·rename_i n c x _ _
  split at h
  ·rename_i n' l'
   cases hb:Nat.beq n n' with
   |false=>simp[hb]at h
   |true=>
    simp only[hb,cond_true]at h
    have e:=iU hb
    subst e
    have:=one h hq
    injection this with _ this
    simp only[fB,<-this]
    exact .cells (.r (kN c x))
  ·rename_i n' c' x' _ _
   cases hb:Nat.beq n n' with
   |false=>simp[hb]at h
   |true=>
    simp only[hb,cond_true]at h
    have e:=iU hb
    subst e
    have:=one h hq
    injection this with _ this
    simp only[fB,<-this]
    exact .cells (.r (kN c x))
  ·cases h
 ·split at h
  ·split at h
   ·exact .gb
   ·cases h
  ·cases h
 ·rename_i c bI st pd
  split at h
  ·rename_i c' env' zl Zt
   cases hb:Nat.beq c c'&&Nat.beq st zl&&OZ pd Zt&&L7 bI env' with
   |false=>simp[hb]at h
   |true=>
    simp only[hb,cond_true]at h
    simp only[eW]at hb
    obtain⟨⟨⟨e1,e2⟩,e3⟩,e4⟩:=hb
    have e1:=iU e1
    have e2:=iU e2
    have e3:=O0 e3
    subst e1;subst e2;subst e3
    simp only[fB,HA,Hz e4]
    exact .loop (mn (λ_ _ _=>jz) h hq)
  ·cases h
 ·rename_i n c x v k
  split at h
  ·rename_i n' c' x' v' k'
   cases hb:Nat.beq n n' with
   |false=>simp[hb]at h
   |true=>
    simp only[hb,cond_true]at h
    have e:=iU hb
    subst e
    obtain⟨⟨q1,h1,e1⟩,q2,h2,e2⟩:=fQ h hq
    have:=one h1 e1
    simp only[AV.agg.injEq,List.cons.injEq,AV.sl.injEq,AV.mp.injEq,true_and,and_true]at this
    obtain⟨hm,hk⟩:=this
    subst hk
    simp only[fB,<-hm]
    exact .cells (.p (.r (kN c x)) (.p (mn (λ_ _ _=>jz) h2 e2) (.r (Md k))))
  ·cases h
 ·rename_i n c w cl pre ky post
  split at h
  ·rename_i n' c' w' R9 L8 L9 DE
   cases hb:Nat.beq n n'&&Nat.beq c c'&&Nat.beq (π w) w'&&(cl==R9)&&Nat.blt 0 (B.K c)with
   |false=>simp[hb]at h
   |true=>
    simp only[hb,cond_true]at h
    simp only[eW,beq_iff_eq,qZ]at hb
    obtain⟨⟨⟨⟨e1,e2⟩,e3⟩,e4⟩,hk⟩:=hb
    have e1:=iU e1
    have e2:=iU e2
    have e3:=iU e3
    subst e1;subst e2;subst e3;subst e4
    split at h
    ·rename_i c2 Vw Vx n2 Qn hg
     cases wC:Nat.beq c2 c&&(Vw==cl)&&Nat.beq n2 ky.length with
     |false=>simp[wC]at h
     |true=>
      simp only[wC,cond_true]at h
      simp only[eW,beq_iff_eq]at wC
      obtain⟨⟨e5,e6⟩,e7⟩:=wC
      have e5:=iU e5
      have e7:=iU e7
      subst e5;subst e6;subst e7
      obtain⟨⟨q1,h1,e1⟩,q2,h2,e2⟩:=fQ h hq
      have:=one h1 e1
      simp only[AV.agg.injEq,List.cons.injEq,AV.sl.injEq,true_and,and_true]at this
      obtain⟨m1,m2,m3,m4⟩:=this
      have m1:=map_inj hk m1
      have m2:=map_inj hk m2
      have m3:=map_inj hk m3
      have m4:=map_inj hk m4
      subst m1;subst m2;subst m3;subst m4
      have zI:=mn (λ_ _ _=>jz) h2 e2
      have NE:L9.length=ky.length:=by have:=zI.length;rw[gA,gA]at this;exact this.symm
      have hf:=hF w _ hg
      simp only[eH]at hf
      simp only[fB,NE]
      refine .cells (.p ?_ (.p zI ?_))
      ·cases Vw with
       |true=>exact .r (kN c2 pre)
       |false=>exact qA λid x hx=>hf id x (by simp only[cond_false];rw[cU,hx])
      ·refine qA λid x hx=>?_
       cases hq:bH (bif Vw then []else gk B c2 w 0 pre) id with
       |some y=>exact hf id y (by rw[cU,hq])
       |none=>exact hf id x (by rw[cU,hq];exact hx)
    ·cases h
  ·rename_i n' c' x' _ _
   split at h
   ·split at h
    ·split at h
     ·cases hb:Nat.beq n n' with
      |false=>simp[hb]at h
      |true=>
       simp only[hb,cond_true]at h
       have e:=iU hb
       subst e
       have:=one h hq
       injection this with _ this
       simp only[fB,<-this]
       cases cl<;>exact .cells .z
     ·cases h
    ·cases h
   ·cases h
  ·cases h
 ·split at h
  ·exact .cells .z
  ·cases h
theorem wR{c n:Nat}{cl:Bool}{pre post:List (B.S c)}{b':TB B.S}{q:iH}(h:yl B hp ok π (.fr c cl pre n post) b'=some q)(hq: ∀p∈q,p.1=p.2):b'=.fr c cl pre n post:=by
 unfold yl at h
 simp only at h
 split at h
 ·rename_i c' R9 L8 n' DE
  cases hb:Nat.beq c c'&&(cl==R9)&&Nat.beq n n'&&Nat.blt 0 (B.K c)with
  |false=>simp[hb]at h
  |true=>
   simp only[hb,cond_true]at h
   simp only[eW,beq_iff_eq,qZ]at hb
   obtain⟨⟨⟨e1,e2⟩,e3⟩,hk⟩:=hb
   have e1:=iU e1
   have e3:=iU e3
   subst e1;subst e2;subst e3
   have:=one h hq
   simp only[AV.agg.injEq,List.cons.injEq,AV.sl.injEq,true_and,and_true]at this
   rw[map_inj hk this.1,map_inj hk this.2]
 ·cases h
theorem Sc{b:TB B.S}{q:iH}(h:Xs B b=some q)(hq: ∀p∈q,p.1=p.2): ∃cz,0<cz/\fB B b=.cells cz []:=by
 unfold Xs at h
 split at h
 ·rename_i n l
  cases hb:Nat.blt 0 n with
  |false=>simp[hb]at h
  |true=>
   simp only[hb,cond_true]at h
   have:=one h hq
   injection this with _ this
   exact⟨n,by simpa[qZ]using hb,by simp only[fB,this]⟩
 ·rename_i n c x _ _
  cases hb:Nat.blt 0 n with
  |false=>simp[hb]at h
  |true=>
   simp only[hb,cond_true]at h
   have:=one h hq
   injection this with _ this
   exact⟨n,by simpa[qZ]using hb,by simp only[fB,this]⟩
 ·cases h
 ·cases h
 ·cases h
 ·rename_i n c w cl pre ky post
  split at h
  ·split at h
   ·split at h
    ·cases hb:Nat.blt 0 n with
     |false=>simp[hb]at h
     |true=>exact⟨n,by simpa[qZ]using hb,by cases cl<;>rfl⟩
    ·cases h
   ·cases h
  ·cases h
 ·exact⟨1,by decide,rfl⟩
theorem HC{bI:dD B.S}: ∀{E2:dD B.S}{q:iH},Sa B hp ok π bI E2=some q->(∀p∈q,p.1=p.2)-> ∀t x,bH (ez B E2) t=some x-> ∃y,bH (ez B bI) t=some y/\Co ok π x y
 | [],_,_,_,t,x,hx=>by simp[ez,cR]at hx
 |(k,X)::r,q,h,hq,t,x,hx=>by
  obtain⟨⟨q1,h1,e1⟩,q2,h2,e2⟩:=fQ h hq
  simp only[ez,cG]at hx
  split at hx
  ·rename_i e;subst e;cases hx
   split at h1
   ·rename_i y hy
    exact⟨_,by rw[k7,hy];rfl,jz h1 e1⟩
   ·cases h1
  ·exact HC h2 e2 t x hx
theorem HD(hF:xK B hp.1 ok π){bQ:Nat}{s:dI B.S}: ∀{h2:List (Nat×TB B.S)}{q:iH},Ma B hp ok π bQ s h2=some q->(∀p∈q,p.1=p.2)->P6 ok π bQ (df B s) (kh B h2)
 | [],_,_,_=>.z
 |(id,b)::r,q,h,hq=>by
  obtain⟨⟨q1,h1,e1⟩,q2,h2,e2⟩:=fQ h hq
  have ih:=HD hF h2 e2
  split at h1
  ·rename_i b' hb
   exact .k (dj hb) (B5 hF h1 e1) ih
  ·cases hc:Nat.ble bQ id&&Nat.ble s.bS (π id)with
   |false=>simp[hc]at h1
   |true=>
    simp only[hc,cond_true]at h1
    simp only[eW]at hc
    obtain⟨cz,h0,he⟩:=Sc h1 e1
    simp only[kh,he]
    exact .n hc.1 hc.2 (by simpa[qZ]using h0) ih
theorem HE{bQ:Nat}{s:dI B.S}{c n:Nat}{cl:Bool}{pre post:List (B.S c)}: ∀{h2:List (Nat×TB B.S)}{q:iH},Ma B hp ok π bQ s h2=some q->(∀p∈q,p.1=p.2)-> ∀{w:Nat},bH h2 w=some (.fr c cl pre n post)->bH s.heap (π w)=some (.fr c cl pre n post)\/(s.bS<=π w/\pre=[]/\post=[])
 | [],_,_,_,w,hg=>by simp[cR]at hg
 |(id,b)::r,q,h,hq,w,hg=>by
  obtain⟨⟨q1,h1,e1⟩,q2,h2,e2⟩:=fQ h hq
  simp only[cG]at hg
  split at hg
  ·rename_i e
   cases hg;subst e
   split at h1
   ·rename_i b' hb
    rw[hb,wR h1 e1];exact .inl rfl
   ·cases hc:Nat.ble bQ id&&Nat.ble s.bS (π id)with
    |false=>simp[hc]at h1
    |true=>
     simp only[hc,cond_true]at h1
     simp only[eW]at hc
     refine .inr ⟨sT hc.2,?_⟩
     simp only[Xs]at h1
     split at h1
     ·split at h1
      ·exact⟨rfl,rfl⟩
      ·cases h1
     ·cases h1
  ·exact HE h2 e2 hg
theorem Me{bQ:Nat}{s:dI B.S}: ∀{h2:List (Nat×TB B.S)}{q:iH},Ma B hp ok π bQ s h2=some q->(∀p∈q,p.1=p.2)-> ∀{id:Nat}{b:TB B.S},bH h2 id=some b->(∃b',bH s.heap (π id)=some b')\/s.bS<=π id
 | [],_,_,_,id,_,hg=>by simp[cR]at hg
 |(k,b0)::r,q,h,hq,id,b,hg=>by
  obtain⟨⟨q1,h1,e1⟩,q2,h2,e2⟩:=fQ h hq
  simp only[cG]at hg
  split at hg
  ·rename_i e
   subst e
   split at h1
   ·rename_i b' hb;exact .inl ⟨b',hb⟩
   ·cases hc:Nat.ble bQ k&&Nat.ble s.bS (π k)with
    |false=>simp[hc]at h1
    |true=>
     simp only[eW]at hc
     exact .inr (sT hc.2)
  ·exact Me h2 e2 hg
theorem BK{bQ:Nat}{L:List (Nat×Nat)}{E2 bI:dD B.S}{S2 s:dI B.S}{q:iH}(h:Ll B bQ L E2 S2 bI s=some q)(hq: ∀p∈q,p.1=p.2):I2 bQ (pw L (jm L s.bS S2.heap)) (ez B E2) (df B S2) (ez B bI) (df B s):=by
 unfold Ll at h
 cases hb:Mb B bQ L S2 s with
 |false=>simp[hb]at h
 |true=>
  simp only[hb,cond_true]at h
  obtain⟨⟨q1,h1,e1⟩,q2,h2,e2⟩:=fQ h hq
  simp only[Mb,eW]at hb
  obtain⟨⟨⟨⟨b1,b2⟩,b3⟩,b4,b5⟩,⟨⟨⟨w1,w2⟩,w3⟩,w4⟩,w5⟩:=hb
  have b3:=sT b3
  have key: ∀{id b},bH S2.heap id=some b->id<S2.bS/\(fI b=false\/pi L id<s.bS\/B4 b=true)/\ ∀{fq b'},bH S2.heap fq=some b'->id=fq\/pi L id≠pi L fq\/s.bS<=pi L id:=λ{id b}hg=>by
   have:=dM b2 hg
   simp only[eW,qZ,sS,pC]at this
   refine⟨this.1.1,?_,λ{fq b'}j0=>?_⟩
   ·rcases this.1.2 with(h|h)|h
    ·exact .inl h
    ·exact .inr (.inl h)
    ·exact .inr (.inr h)
   have:=dM this.2 j0
   simp only[sS,pC,Iw]at this
   rcases this with(h|h)|h
   ·exact .inl (iU h)
   ·exact .inr (.inl (zG h))
   ·exact .inr (.inr h)
  have full: ∀{w b id x},bH S2.heap w=some b->bH (eH B w b) id=some x->fI b=true/\fC w id=false/\pi L w<s.bS:=λ{w b id x}hg hx=>by
   obtain⟨f1,f2⟩:=eT hx
   refine⟨f1,f2,?_⟩
   rcases(key hg).2.1 with h|h|h
   ·rw[f1]at h;cases h
   ·exact h
   ·exfalso
    obtain⟨c,cl,pre,n,post,rfl⟩:=lh f1
    unfold B4 at h
    simp only at h
    split at h
    ·split at h
     ·cases cl<;>simp[eH,gk,cR]at hx
     ·cases h
    ·cases h
  have row: ∀{w b id x},bH S2.heap w=some b->bH (eH B w b) id=some x->pw L (jm L s.bS S2.heap) id=pi L w+(id-w):=λ{w b id x}hg hx=>by
   obtain⟨f1,f2,f3⟩:=full hg hx
   exact FB w1 hg f1 f3 f2
  have hF:xK B S2.heap (gj bQ (df B S2).heap) (pw L (jm L s.bS S2.heap)):=λw b hg id x hx=>⟨pV (iZ w1 hg hx),by rw[row hg hx,kJ w1 hg]⟩
  have O5:=HD (hp:=(S2.heap,s.heap)) hF h2 e2
  have Xt: ∀{w b id x},bH S2.heap w=some b->bH (eH B w b) id=some x->bH s.heap (pi L w)=some b/\fC (pi L w) (pi L w+(id-w))=false/\ ∃x',bH (df B s).heap (pi L w+(id-w))=some x'/\bH (kh B s.heap) (pi L w+(id-w))=none/\Ai (gj bQ (df B S2).heap) (pw L (jm L s.bS S2.heap)) x x':=λ{w b id x}hg hx=>by
   obtain⟨f1,f2,f3⟩:=full hg hx
   obtain⟨c,cl,pre,n,post,rfl⟩:=lh f1
   have hs:bH s.heap (pi L w)=some (.fr c cl pre n post):=by
    rcases HE (hp:=(S2.heap,s.heap)) h2 e2 hg with h|⟨h,_⟩
    ·rw[kJ w1 hg]at h;exact h
    ·rw[kJ w1 hg]at h;omega
   obtain⟨x',pp,hc⟩:=tp (w':=pi L w) (λid x hx=>⟨(hF w _ hg id x hx).1,row hg hx⟩) id x hx
   exact⟨hs,(eT pp).2,x',iZ w2 hs pp,(Hc w2 hs pp).1,hc⟩
  have not: ∀{w b id x k c},bH S2.heap w=some b->bH (eH B w b) id=some x->bH S2.heap k=some c->pi L k=pi L w+(id-w)->False:=λ{w b id x k c}hg hx hk e=>by
   obtain⟨p1,p2,x',q1,q2,_⟩:=Xt hg hx
   rcases Me h2 e2 hk with⟨b2,k5⟩|k5
   ·rw[kJ w1 hk,e]at k5
    rw[fP,k5]at q2;cases q2
   ·rw[kJ w1 hk]at k5
    obtain⟨f1,_⟩:=eT hx
    have:=dM w4 p1
    simp only[f1,oe,GG]at this
    have:=sT this
    obtain⟨o1,o2⟩:=eR p2
    omega
  refine⟨⟨⟨?_,?_,?_,?_,b3⟩,?_⟩,HC h1 e1⟩
  ·intro id x hx
   rcases gH w1 hx with⟨b,hg,rfl⟩|⟨hn,w,b,hg,hr⟩
   ·exact O5.get id _ (by rw[fP,hg];rfl)
   ·obtain⟨_,_,x',q1,_,q3⟩:=Xt hg hr
    exact .inl ⟨x',by rw[row hg hr];exact q1,q3⟩
  ·intro id hl
   unfold pw
   split
   ·rename_i v hv
    obtain⟨v1,v2⟩:=oD hv
    have:=py.1 w5 v v1
    simp only[sS]at this
    obtain⟨o1,o2⟩:=eR v2
    rcases this with h|h
    ·have:=sT h;omega
    ·have:=iU h;omega
   ·exact RA b1 hl
  ·intro id fq x x' hx pp e
   rcases gH w1 hx with⟨b,hg,rfl⟩|⟨hn,w,b,hg,hr⟩
   ·rw[kJ w1 hg]at e |-
    rcases gH w1 pp with⟨b',j0,rfl⟩|⟨lY,w',b',j0,FA⟩
    ·rw[kJ w1 j0]at e
     rcases(key hg).2.2 j0 with h|h|h
     ·exact .inl h
     ·exact absurd e h
     ·exact .inr h
    ·rw[row j0 FA]at e
     exact(not j0 FA hg e).elim
   ·rw[row hg hr]at e |-
    rcases gH w1 pp with⟨b',j0,rfl⟩|⟨lY,w',b',j0,FA⟩
    ·rw[kJ w1 j0]at e
     exact(not hg hr j0 e.symm).elim
    ·rw[row j0 FA]at e
     obtain⟨p1,p2,_⟩:=Xt hg hr
     obtain⟨p3,p4,_⟩:=Xt j0 FA
     have hp:=lE w2 p1 p3 (full hg hr).1 (full j0 FA).1 p2 (by rw[e];exact p4)
     rcases(key hg).2.2 j0 with h|h|h
     ·subst h
      obtain⟨n1,n2⟩:=eR (full hg hr).2.1
      obtain⟨n3,n4⟩:=eR (full j0 FA).2.1
      exact .inl (by omega)
     ·exact absurd hp h
     ·have:=(full hg hr).2.2;omega
  ·intro id x hx
   rcases gH w1 hx with⟨b,hg,rfl⟩|⟨hn,w,b,hg,hr⟩
   ·exact(key hg).1
   ·obtain⟨f1,f2⟩:=eT hr
    have:=dM w3 hg
    simp only[f1,oe,GG]at this
    have:=sT this
    obtain⟨o1,o2⟩:=eR f2
    show id<S2.bS
    omega
  ·intro id hd
   rcases gH w2 hd with⟨b,hg,hb⟩|⟨hn,w,b,hg,hr⟩
   ·have:=dM b5 hg
    simp only[<-hb,tg,oe,GG,qZ]at this
    refine⟨this,?_⟩
    have:=nH b4 id (by rw[fP,hg,gl,<-hb])
    simp only[df]
    rw[cU,this]
   ·exact(nI hr).elim
end
section
variable {S:Nat->Type}
def NO(f:TV S->TV S->List (Nat×Nat)):List (TV S)->List (TV S)->List (Nat×Nat)
 |x::r,y::l=>f x y++NO f r l
 |_,_=>[]
def NP(F3:Nat):Nat->TV S->TV S->List (Nat×Nat)
 |0,_,_=>[]
 |n+1,x,y=>match B0 x with
  |some (i,_,_)=>(match B0 y with
   |some (j,_,_)=>[(i,j)]
   |none=>[(i,F3+i)])
  |none=>match x with
   |.a (.mp i _ _)=>(match y with
    |.a (.mp j _ _)=>[(i,j)]
    |_=>[])
   |.a (.kt i)=>(match y with
    |.a (.kt j)=>[(i,j)]
    |_=>[])
   |.fn _ cs=>(match y with
    |.fn _ cs'=>NO (NP F3 n) cs cs'
    |_=>[])
   |.dW cs=>(match y with
    |.dW cs'=>NO (NP F3 n) cs cs'
    |_=>[])
   |.agg cs=>(match y with
    |.agg cs'=>NO (NP F3 n) cs cs'
    |.a (.agg l)=>NO (NP F3 n) cs (aL S l)
    |_=>[])
   |_=>[]
def DF(bQ:Nat):List (Nat×Nat)->List (Nat×Nat)
 | []=>[]
 |p::r=>bif Nat.ble bQ p.1 then p::DF bQ r else DF bQ r
def prE(F3:Nat)(bI:dD S):dD S->List (Nat×Nat)
 | []=>[]
 |(t,x)::r=>(match bH bI t with
  |some y=>NP F3 4 x y
  |none=>[])++prE F3 bI r
def Qo(F3:Nat)(d:Bool)(L:List (Nat×Nat))(h:List (Nat×TB S)):List (Nat×TB S)->List (Nat×Nat)
 | []=>[]
 |(id,b)::r=>(match b with
  |.cE _ l=>(match bH h (pi L id)with
   |some (.cE _ l')=>NO (NP F3 4) l l'
   |_=>[])
  |.rows _ _ _ v _=>(match bH h (pi L id)with
   |some (.rows _ _ _ v' _)=>NO (NP F3 4) v v'
   |_=>[])
  |.lp _ bI _ _=>(match bH h (pi L id)with
   |some (.lp _ env' _ _)=>NO (NP F3 4) (F2 bI) (F2 env')
   |_=>[])
  |.fm _ _ w _ _ ky _=>(match bH h (pi L id)with
   |some (.fm _ _ w' _ _ L9 _)=>(w,w')::NO (NP F3 4) ky L9
   |_=>bif d then [(w,F3+w)]else [])
  |_=>[])++Qo F3 d L h r
def Lm(bQ:Nat)(E2:dD S)(S2:dI S)(bI:dD S)(s:dI S):List (Nat×Nat):=
 match DF bQ (prE s.bS bI E2)with
 |l0=>match l0++DF bQ (Qo s.bS false l0 s.heap S2.heap)with
  |l1=>l1++DF bQ (Qo s.bS true l1 s.heap S2.heap)
def lj:List Nat->dD S->dD S
 | [],_=>[]
 |t::r,bI=>match bH bI t with
  |some x=>(t,x)::lj r bI
  |none=>lj r bI
def kG:List Nat->List (Nat×TB S)->List (Nat×TB S)
 | [],_=>[]
 |i::r,h=>match bH h i with
  |some b=>(i,b)::kG r h
  |none=>kG r h
def yOf:TO S->Option Code
 |.ro _ y=>y
 |.po _ _ _ y=>y
 |.rd _ _ y=>y
 |.pl _ _ _ _ _ _ _ _ y=>y
 |.ph _ _ _ _ _ y=>y
 |_=>none
end
def O6(ρ:Option Nat)(n:Nat):Bool:=match ρ with
 |none=>true
 |some id=>Nat.blt id n
theorem O7{ρ:Option Nat}{n:Nat}(h:O6 ρ n=true): ∀id,ρ=some id->id<n:=λid e=>by
 subst e
 simpa[O6,qZ]using h
def zL(B:iP)(ρ:Option Nat)(bQ:Nat)(E2:dD B.S)(S2:dI B.S)(M:TM B.S):iH:=match(bif O6 ρ bQ then Ll B bQ (Lm bQ E2 S2 M.bI M.s) E2 S2 M.bI M.s else none)with
 |some q=>q
 |none=>[(.any,.ij)]
theorem wS{B:iP}{ρ:Option Nat}{bQ:Nat}{E2:dD B.S}{S2:dI B.S}{M:TM B.S}(hq: ∀p∈zL B ρ bQ E2 S2 M,p.1=p.2):(∀id,ρ=some id->id<bQ)/\ ∃π,I2 bQ π (ez B E2) (df B S2) (ez B M.bI) (df B M.s):=by
 unfold zL at hq
 cases hb:O6 ρ bQ with
 |false=>
  rw[hb]at hq
  have:=hq (.any,.ij) (by simp);cases this
 |true=>
  rw[hb]at hq
  simp only[cond_true]at hq
  refine⟨O7 hb,?_⟩
  split at hq
  ·rename_i q h;exact⟨_,BK h hq⟩
  ·have:=hq (.any,.ij) (by simp);cases this
section
variable {B:iP} {P:Program} {N:Nat} {ρ:Option Nat} {Q:Exit->Env->St->Prop} {M:TM B.S} {α β:Type} {r:β}
def Xu(B:iP)(P:Program)(N:Nat)(M:TM B.S)(run:Bool)(n:Nat)(cV ids:List Nat)(bS:Nat)(U:dD B.S×List (Nat×TB B.S)):TM B.S:=
 ⟨bif run then BV (yOf (G B P N M).1.o)else .out .normal,(G B P N M).1.k.drop n,U.1++lj cV (G B P N M).1.bI,⟨U.2++kG ids (G B P N M).1.s.heap,bS⟩⟩
theorem tJ{J:Type}{o:Option J}{K:J->Option β}(h:o.bind K=some r)(run:Bool)(n:Nat)(cV ids:List Nat)(bS:Nat)(U:J->dD B.S×List (Nat×TB B.S))
  (h1: ∀a,o=some a->(∀j,a=j->RT B P N ρ Q (Xu B P N M run n cV ids bS (U j)))->RT B P N ρ Q M) (h2: ∀j,K j=some r->RT B P N ρ Q (Xu B P N M run n cV ids bS (U j))):RT B P N ρ Q M:=
 let⟨a,ha,hK⟩:=ml h
 h1 a ha λj e=>h2 j (e ▸ hK)
theorem iB{J:Type}{o:Option (J⊕β)}{K:J->Option β}(h:o.bind (Sum.elim K some)=some r)(run:Bool)(n:Nat)(cV ids:List Nat)(bS:Nat)(U:J->dD B.S×List (Nat×TB B.S))
  (h1: ∀a,o=some a->(∀j,a=.inl j->RT B P N ρ Q (Xu B P N M run n cV ids bS (U j)))->Sum.elim K some a=some r->RT B P N ρ Q M) (h2: ∀j,K j=some r->RT B P N ρ Q (Xu B P N M run n cV ids bS (U j))):RT B P N ρ Q M:=
 let⟨a,ha,hK⟩:=ml h
 h1 a ha (λj e=>h2 j (by subst e;exact hK)) hK
theorem sj{γ:Type}{a b:γ}(h:some a=some b):b=a:=(Option.some.inj h).symm
theorem sE{J:Type}{x:β}{a:J⊕β}{K:J->Option β}(h:some (Sum.inr x)=some a)(h2:Sum.elim K some a=some r):some x=some r:=by cases h;exact h2
def toRun(B:iP)(P:Program)(N:Nat)(T M:TM B.S):TM B.S×iH:=R1 B P N (Ql (yi T.o) T.k.length) FT M
theorem HF{o:TO B.S}{k:List Fr}{bI E2:dD B.S}{s S2:dI B.S}(ho:jU o=true){π:Nat->Nat}{bQ:Nat}(Ft: ∀id,ρ=some id->id<bQ)(hb:s.bS<=bQ)(hI:I2 bQ π (ez B E2) (df B S2) (ez B bI) (df B s))(h:ki B P N ρ Q ⟨o,k,E2,S2⟩):ki B P N ρ Q ⟨o,k,bI,s⟩:=by
 cases o<;>simp only[jU]at ho<;>first|(cases ho;done)|skip
 ·have h:wj P N ρ Q ⟨.run _,k,ez B E2,df B S2⟩:=h
  exact rZ (bQ:=bQ) hb (tS Ft hI) h
 ·have h:wj P N ρ Q ⟨.out _,k,ez B E2,df B S2⟩:=h
  exact rZ (bQ:=bQ) hb (tS Ft hI) h
theorem tM{T:TM B.S}(kj:RT B P N ρ Q T)(hx:(jU T.o,(toRun B P N T M).1.o,(toRun B P N T M).1.k,(toRun B P N T M).2.map Prod.fst,(zL B ρ (toRun B P N T M).1.s.bS T.bI T.s (toRun B P N T M).1).map Prod.fst)=
  (true,T.o,T.k,(toRun B P N T M).2.map Prod.snd,(zL B ρ (toRun B P N T M).1.s.bS T.bI T.s (toRun B P N T M).1).map Prod.snd):=by kernel_rfl):RT B P N ρ Q M:=by
 simp only[Prod.mk.injEq]at hx
 obtain⟨h0,h1,h2,h3,h4⟩:=hx
 refine⟨kl (dQ h3) ?_⟩
 obtain⟨Ft,L,hI⟩:=wS (dQ h4)
 have e:(toRun B P N T M).1=⟨T.o,T.k,(toRun B P N T M).1.bI,(toRun B P N T M).1.s⟩:=by rw[<-h1,<-h2]
 show ki B P N ρ Q (toRun B P N T M).1
 rw[e]
 exact HF h0 Ft (eu _) hI kj.v
def Sd{S:Nat->Type}:TO S->Code
 |.run (.loop x)=>x
 |_=>.skip
def HG{S:Nat->Type}:TO S->Bool
 |.run (.loop _)=>true
 |_=>false
section
variable {σ τ:Type}
def Se(B:iP)(P:Program)(N:Nat)(M:TM B.S)(cV:List Nat)(U:σ->dD B.S×List (Nat×TB B.S))(st:σ):dD B.S:=(U st).1++lj cV (G B P N M).1.bI
def Sf(B:iP)(P:Program)(N:Nat)(M:TM B.S)(ids:List Nat)(bS:Nat)(U:σ->dD B.S×List (Nat×TB B.S))(st:σ):dI B.S:=⟨(U st).2++kG ids (G B P N M).1.s.heap,bS⟩
def Zu(B:iP)(P:Program)(N:Nat)(ρ:Option Nat)(M:TM B.S)(cV ids:List Nat)(bS:Nat)(U:σ->dD B.S×List (Nat×TB B.S))(out:σ⊕τ):Fr:=
 .lp (Nx N ρ (G B P N M).1.s.bS (λst=>ez B (Se B P N M cV U st)) (λst=>df B (Sf B P N M ids bS U st)) out) (∃r,out=.inr r)
structure LT (B:iP) (P:Program) (N:Nat) (M:TM B.S) (cV ids:List Nat) (bS:Nat) (U:σ->dD B.S×List (Nat×TB B.S)) (out:σ⊕τ):Prop where
 t:True
theorem tL{body:σ->Option (σ⊕τ)}{n:Nat}{JW:σ}{JZ:τ}(hl:bY body n JW=some JZ)(cV ids:List Nat)(bS:Nat)(U:σ->dD B.S×List (Nat×TB B.S))
  (round: ∀st out,body st=some out->(∀r,out=.inr r->r=JZ)->LT B P N M cV ids bS U out->RT B P N ρ Q ⟨.run (Sd (G B P N M).1.o),Zu B P N ρ M cV ids bS U out::(G B P N M).1.k,Se B P N M cV U st,Sf B P N M ids bS U st⟩)
  (hx:(HG (G B P N M).1.o,(G B P N M).2.map Prod.fst,(zL B ρ (G B P N M).1.s.bS (Se B P N M cV U JW) (Sf B P N M ids bS U JW) (G B P N M).1).map Prod.fst)=
   (true,(G B P N M).2.map Prod.snd,(zL B ρ (G B P N M).1.s.bS (Se B P N M cV U JW) (Sf B P N M ids bS U JW) (G B P N M).1).map Prod.snd):=by kernel_rfl):RT B P N ρ Q M:=by
 simp only[Prod.mk.injEq]at hx
 obtain⟨h0,h1,h2⟩:=hx
 refine rk h1 ⟨?_⟩
 obtain⟨Ft,L,hI⟩:=wS (dQ h2)
 have rd:=λst out h1 h2=>(round st out h1 h2 ⟨trivial⟩).v
 clear round
 unfold Zu at rd
 generalize Se B P N M cV U=E at *
 generalize Sf B P N M ids bS U=Z at *
 clear h1 h2
 generalize(G B P N M).1=g at *
 obtain⟨o,k,bI,s⟩:=g
 simp only at *
 cases o<;>simp only[HG]at h0<;>first|(cases h0;done)|skip
 rename_i c
 cases c<;>simp only at h0<;>first|(cases h0;done)|skip
 rename_i x
 exact OV (s:=df B s) body hl (λst=>ez B (E st)) (λst=>df B (Z st)) (tS Ft hI) λst out hb hr=>rd st out hb hr
theorem tN{M':TM B.S}{cV ids:List Nat}{bS:Nat}{U:σ->dD B.S×List (Nat×TB B.S)}{out:σ⊕τ}{st:σ}(K:LT B P N M' cV ids bS U out)(h:some (.inl st)=some out)
  (hx:((G B P N M).1.o,(G B P N M).1.k,(G B P N M).2.map Prod.fst,(zL B ρ (G B P N M').1.s.bS (Se B P N M' cV U st) (Sf B P N M' ids bS U st) (G B P N M).1).map Prod.fst)=
   (.out .normal,Zu B P N ρ M' cV ids bS U out::(G B P N M').1.k,(G B P N M).2.map Prod.snd,(zL B ρ (G B P N M').1.s.bS (Se B P N M' cV U st) (Sf B P N M' ids bS U st) (G B P N M).1).map Prod.snd):=by kernel_rfl):RT B P N ρ Q M:=by
 simp only[Prod.mk.injEq]at hx
 obtain⟨h0,h1,h2,h3⟩:=hx
 refine rk h2 ⟨?_⟩
 obtain⟨Ft,L,hI⟩:=wS (dQ h3)
 generalize(G B P N M).1=g at *
 obtain⟨o,k,bI,s⟩:=g
 simp only at *
 subst h0;subst h1
 exact OU (sj h) (tS Ft hI)
def lpA{S:Nat->Type}(M:TM S):Option Prop:=match M.o with
 |.out e=>(match M.k with
  |.lp _ ok::_=>(match e with
   |.normal=>none
   |_=>some ok)
  |_=>none)
 |_=>none
def Zv{S:Nat->Type}(M:TM S):TM S:=⟨M.o,M.k.tail,M.bI,M.s⟩
theorem tO{out:σ⊕τ}{t:τ}(h:some (.inr t)=some out)(k:RT B P N ρ Q (Zv (G B P N M).1))(hx:(lpA (G B P N M).1,(G B P N M).2.map Prod.fst)=(some (∃r,out=.inr r),(G B P N M).2.map Prod.snd):=by kernel_rfl):RT B P N ρ Q M:=by
 simp only[Prod.mk.injEq]at hx
 obtain⟨h0,h1⟩:=hx
 refine rk h1 ⟨?_⟩
 have k:=k.v
 generalize(G B P N M).1=g at *
 obtain⟨o,fr,bI,s⟩:=g
 unfold lpA at h0
 split at h0
 ·rename_i e ho
  simp only at ho;subst ho
  split at h0
  ·rename_i nx ok k' hk
   simp only at hk;subst hk
   split at h0
   ·cases h0
   ·rename_i eJ
    have e1:=Option.some.inj h0
    have ho:ok:=by rw[e1];exact⟨t,sj h⟩
    have k:wj P N ρ Q ⟨.out e,k',ez B bI,df B s⟩:=k
    show wj P N ρ Q ⟨.out e,.lp nx ok::k',ez B bI,df B s⟩
    intro G w a hn
    refine gM.of (k G w a hn) λbI s hq=>?_
    cases e with
    |normal=>exact absurd rfl eJ
    |exit _=>exact⟨ho,hq⟩
    |goto _=>exact⟨ho,hq⟩
    |ret=>exact⟨ho,hq⟩
    |panic _=>exact⟨ho,hq⟩
    |outgrown=>exact⟨ho,hq⟩
  ·cases h0
 ·cases h0
theorem oJ{out:σ⊕τ}{t JZ:τ}(h:some (.inr t)=some out)(e: ∀r,out=.inr r->r=JZ):JZ=t:=(e _ (sj h)).symm
theorem oE{J β:Type}{r x:β}{out:σ⊕(J⊕β)}{JZ:J⊕β}{K:J->Option β}(h:some (.inr (.inr x))=some out)(e: ∀r,out=.inr r->r=JZ)(h2:Sum.elim K some JZ=some r):some x=some r:=by have:=oJ h e;subst this;exact h2
end
def DG(P:Program)(f:FuncId):Option (Nat×List ResultVar×Code):=(P.funcs[f]?).bind λfn=>fn.body.map λb=>(fn.ntmps,fn.results.toList,b)
def nF(P:Program)(f:FuncId):Nat:=match DG P f with
 |some (n,_,_)=>n
 |none=>0
def rF(P:Program)(f:FuncId):List ResultVar:=match DG P f with
 |some (_,r,_)=>r
 |none=>[]
def cF(P:Program)(f:FuncId):Code:=match DG P f with
 |some (_,_,c)=>c
 |none=>.skip
def Jo{S:Nat->Type}:List (TV S)->Nat->dD S
 | [],_=>[]
 |x::r,k=>(k,x)::Jo r (k+1)
theorem HH{l:List (TV B.S)}{k:Nat}:ez B (Jo l k)=mX (dV B.E l) k:=by
 induction l generalizing k with
 |nil=>simp[Jo,ez,dV,mX]
 |cons x r ih=>simp only[Jo,ez,dV,mX,ih]
def Sg:AV->AV
 |.sl _ l=>.sl false l
 |x=>x
def Sh:AV->AV
 |.agg l=>.agg (l.map Sg)
 |x=>Sg x
def dN:AV->AV
 |.dW l=>.dW (l.map Sh)
 |x=>Sh x
theorem Mf{G:bZ}{x:AV}{v:Value}(h:V G x v):V G (Sg x) v:=by
 cases x<;>first|exact h|skip
 rename_i f l
 cases h with
 |slnil _ bQ cap hf hb=>exact .slnil false bQ cap (λe=>by cases e) hb
 |sl _ _ b off cz cap val jG jB dS jg gF hV=>exact .sl false l b off cz cap val jG (λe=>by cases e) dS jg gF hV
theorem Mg{G:bZ}{x:AV}{v:Value}(h:V G x v):V G (Sh x) v:=by
 cases x<;>first|exact Mf h|skip
 cases h with
 |agg cs vs dt h=>exact .agg _ vs (by rw[mA];exact dt) λi x y hx hy=>(by
  rw[sK]at hx
  obtain⟨z,hz,rfl⟩:=GH.1 hx
  exact Mf (h i z y hz hy))
theorem Vy{G:bZ}{x:AV}{v:Value}(h:V G x v):V G (dN x) v:=by
 cases x<;>first|exact Mg h|skip
 cases h with
 |dW cs vs dt h=>exact .dW _ vs (by rw[mA];exact dt) λi x y hx hy=>(by
  rw[sK]at hx
  obtain⟨z,hz,rfl⟩:=GH.1 hx
  exact Mg (h i z y hz hy))
theorem Jp{f:FuncId}{args:List AV}{x:AV}(ha:eG args=true)(hx:x.dv=true)(h:dJ P f args St.nil λy s=>dN (Go.Am.Ob y s).1=x):nz P f args x:=
 UG ha hx (dJ.turn (h.mono λy s hq=>⟨_,_,λG w v hs hv=>by
  obtain⟨G',h1,h2,h3⟩:=C3 s y G w v hs hv
  exact⟨G',h1,h2,Vy h3⟩,hq⟩))
def KX(B:iP)(X:α->TV B.S)(a:α):AV->St->Prop:=λy s=>dN (Ob y s).1=(X a).er B.E
theorem tf{f:FuncId}{args:List (TV B.S)}{X:α->TV B.S}{a:α}(h:RT B P (nF P f) none (IP P (rF P f).toArray (KX B X a)) ⟨.run (cF P f),[],Jo args 0,⟨[],0⟩⟩)
  (hx:((DG P f).isSome&&Nat.ble args.length (nF P f)&&DD args&&(X a).cl)=true:=by kernel_rfl):cY B P f args X a:=by
 simp only[eW]at hx
 obtain⟨⟨⟨h1,h2⟩,h3⟩,h4⟩:=hx
 refine Jp (ng h3) (Az h4) ?_
 have h:=h.v
 obtain⟨⟨n,rs,c⟩,hb⟩:=zY.1 h1
 have e1:nF P f=n:=by simp[nF,hb]
 have e2:rF P f=rs:=by simp[rF,hb]
 have e3:cF P f=c:=by simp[cF,hb]
 rw[e1,e2,e3]at h
 rw[e1]at h2
 refine P7 (s:=St.nil) n rs c _ hb HH.symm (by rw[gA];exact h2) rfl h
def Mh(B:iP)(P:Program)(bI:dD B.S)(s:dI B.S):List ResultVar->Option (List (TV B.S))
 | []=>some []
 |r::l=>match(match r with
  |.tmp t=>bH bI t
  |.cell t ty=>match bH bI t with
   |some p=>(match Ho B P ty p s with
    |.ok v _=>some v
    |_=>none)
   |none=>none)with
  |some x=>match Mh B P bI s l with
   |some xs=>some (x::xs)
   |none=>none
  |none=>none
def vH{S:Nat->Type}(x:TV S)(s:dI S):TV S×dI S×iH:=match x with
 |.a (.ms id st n)=>(match bH s.heap id with
  |some (.ls _ c xs m _)=>bif Nat.beq st 0&&gX s.heap id then(.l false c xs,⟨eh s.heap id,s.bS⟩,[(.mp 0 0 n,.mp 0 0 m)])else(x,s,[])
  |some (.cE _ l)=>bif Nat.beq st 0&&gX s.heap id then(.s false l,⟨eh s.heap id,s.bS⟩,[(.mp 0 0 n,.mp 0 0 l.length)])else(x,s,[])
  |_=>(x,s,[]))
 |x=>(x,s,[])
def vI{S:Nat->Type}(f:TV S->dI S->TV S×dI S×iH):List (TV S)->dI S->List (TV S)×dI S×iH
 | [],s=>([],s,[])
 |x::r,s=>match f x s with
  |(y,s1,q)=>match vI f r s1 with
   |(l,s2,q2)=>(y::l,s2,q++q2)
def tT{S:Nat->Type}(x:TV S)(s:dI S):TV S×dI S×iH:=match x with
 |.agg l=>(match vI vH l s with
  |(l,s,q)=>(.agg l,s,q))
 |x=>vH x s
def DH{S:Nat->Type}(x:TV S)(s:dI S):TV S×dI S×iH:=match x with
 |.dW l=>(match vI tT l s with
  |(l,s,q)=>(.dW l,s,q))
 |x=>tT x s
def O8(B:iP)(f:TV B.S->dI B.S->TV B.S×dI B.S×iH)(g:AV->St->AV×St):Prop:= ∀x s,(f x s).1.cl=true->(∀p∈(f x s).2.2,p.1=p.2)->g (x.er B.E) (df B s)=((f x s).1.er B.E,df B (f x s).2.1)
theorem B6{x:AV}{s:St}(h:x.dv=true):uL x s=(x,s):=by
 cases x<;>first|rfl|cases h
theorem DJ:O8 B vH uL:=by
 intro x s hc hq
 unfold vH at hc hq |-
 split at hc
 ·rename_i id st n
  split at hc
  ·rename_i cz c xs m hm hg
   cases hb:Nat.beq st 0&&gX s.heap id with
   |false=>simp[hb,TV.cl,AV.dv]at hc
   |true=>
    simp only[hg,hb,cond_true]at hq |-
    simp only[eW]at hb
    have e:=iU hb.1
    subst e
    have:=hq _ (by simp:((AV.mp 0 0 n),(AV.mp 0 0 m))∈_)
    simp only[AV.mp.injEq]at this
    have hn:=this.2.2
    subst hn;subst hm
    simp only[TV.er,uL,dj hg,fB]
    rw[if_pos (by simp)]
    simp[lV hb.2,rP];rfl
  ·rename_i cz l hg
   cases hb:Nat.beq st 0&&gX s.heap id with
   |false=>simp[hb,TV.cl,AV.dv]at hc
   |true=>
    simp only[hg,hb,cond_true]at hq |-
    simp only[eW]at hb
    have e:=iU hb.1
    subst e
    have:=hq _ (by simp:((AV.mp 0 0 n),(AV.mp 0 0 l.length))∈_)
    simp only[AV.mp.injEq]at this
    have hn:=this.2.2
    subst hn
    simp only[TV.er,uL,dj hg,fB]
    rw[if_pos (by simp[gA])]
    simp[lV hb.2,rP,gA];rfl
  ·simp[TV.cl,AV.dv]at hc
 ·rename_i x _
  simp only at hc |-
  exact B6 (Az hc)
theorem ym{f:TV B.S->dI B.S->TV B.S×dI B.S×iH}{g:AV->St->AV×St}(h:O8 B f g): ∀(l:List (TV B.S))(s:dI B.S),DD (vI f l s).1=true->(∀p∈(vI f l s).2.2,p.1=p.2)->mF g (dV B.E l) (df B s)=(dV B.E (vI f l s).1,df B (vI f l s).2.1)
 | [],s,_,_=>rfl
 |x::r,s,hc,hq=>by
  simp only[vI]at hc hq |-
  simp only[DD,eW]at hc
  have h1:=h x s hc.1 (λp hp=>hq p (CF _ hp))
  have h2:=ym h r _ hc.2 (λp hp=>hq p (EK _ hp))
  simp only[dV,mF,h1,h2]
theorem DK:O8 B tT tc:=by
 intro x s hc hq
 rcases Classical.em (∃l,x=.agg l)with⟨l,rfl⟩|hx
 ·have:=ym DJ l s hc hq
  simp only[TV.er,tc,this,tT]
 ·have e:tT x s=vH x s:=by
    unfold tT
    split
    ·exact absurd ⟨_,rfl⟩ hx
    ·rfl
  rw[e]at hc hq |-
  have h0:=DJ x s hc hq
  have:tc (x.er B.E) (df B s)=uL (x.er B.E) (df B s)\/ ∃l,x.er B.E=.agg l:=by
    generalize x.er B.E=y
    cases y<;>first|exact .inl rfl|exact .inr ⟨_,rfl⟩
  rcases this with h|⟨l,hl⟩
  · rw[h];exact h0
  ·
    have FH: ∀(l:List AV)(s:St),eG l=true->mF uL l s=(l,s):=by
     intro l
     induction l with
     |nil=>intro s _;rfl
     |cons a r ih=>
      intro s hc
      simp only[eG,eW]at hc
      simp only[mF,B6 hc.1,ih s hc.2]
    have he:vH x s=(x,s,[]):=by
     unfold vH
     split
     ·rename_i id st n;simp[TV.er]at hl
     ·rfl
    rw[he]at hc |-
    have hc:=Az hc
    rw[hl]at hc |-
    simp only[tc,FH l _ hc]
theorem HI:O8 B DH Ob:=by
 intro x s hc hq
 rcases Classical.em (∃l,x=.dW l)with⟨l,rfl⟩|hx
 ·have:=ym DK l s hc hq
  simp only[TV.er,Ob,this,DH]
 ·have e:DH x s=tT x s:=by
   unfold DH
   split
   ·exact absurd ⟨_,rfl⟩ hx
   ·rfl
  rw[e]at hc hq |-
  have h0:=DK x s hc hq
  have:Ob (x.er B.E) (df B s)=tc (x.er B.E) (df B s)\/ ∃l,x.er B.E=.dW l:=by
   generalize x.er B.E=y
   cases y<;>first|exact .inl rfl|exact .inr ⟨_,rfl⟩
  rcases this with h|⟨l,hl⟩
  ·rw[h];exact h0
  ·have Zw: ∀(x:AV)(s:St),x.dv=true->tc x s=(x,s):=by
    intro x s hc
    cases x<;>first|rfl|(cases hc;done)|skip
    rename_i l
    have: ∀(l:List AV)(s:St),eG l=true->mF uL l s=(l,s):=by
     intro l
     induction l with
     |nil=>intro s _;rfl
     |cons a r ih=>
      intro s hc
      simp only[eG,eW]at hc
      simp only[mF,B6 hc.1,ih s hc.2]
    simp only[tc,this l s hc]
   have FH: ∀(l:List AV)(s:St),eG l=true->mF tc l s=(l,s):=by
    intro l
    induction l with
    |nil=>intro s _;rfl
    |cons a r ih=>
     intro s hc
     simp only[eG,eW]at hc
     simp only[mF,Zw a s hc.1,ih s hc.2]
   have he:tT x s=(x,s,[]):=by
    unfold tT
    split
    ·simp[TV.er]at hl
    ·unfold vH
     split
     ·simp[TV.er]at hl
     ·rfl
   rw[he]at hc |-
   have hc:=Az hc
   rw[hl]at hc |-
   simp only[Ob,FH l _ hc]
theorem B7{bI:dD B.S}{s:dI B.S}: ∀{rs:List ResultVar}{l:List (TV B.S)},Mh B P bI s rs=some l->vw P (ez B bI) (df B s) rs=some (dV B.E l)
 | [],l,h=>by cases h;rfl
 |r::rs,l,h=>by
  unfold Mh at h
  split at h
  ·rename_i x hx
   split at h
   ·rename_i xs YM
    cases h
    have h1:KC P (ez B bI) (df B s) r=some (x.er B.E):=by
     split at hx
     ·simp only[KC,k7,hx,gl]
     ·rename_i t ty
      split at hx
      ·rename_i p hp
       split at hx
       ·rename_i v s' hv
        cases hx
        obtain⟨v',e,e1,e2⟩:=Dv (B:=B) (P:=P) (s:=s) (t:=ty) (p:=p) (λa b=>a=x/\b=s') (by rw[hv];exact⟨rfl,rfl⟩)
        subst e1
        simp only[KC,k7,hp,gl,e]
       ·cases hx
      ·cases hx
    simp only[vw,h1,B7 YM,dV]
   ·cases h
  ·cases h
def NQ{S:Nat->Type}:List (Nat×TB S)->List (Nat×TB S)
 | []=>[]
 |(i,b)::r=>match b with
  |.raw .gb=>eh (NQ r) i
  |b=>(i,b)::NQ r
def DL{S:Nat->Type}(s:dI S):dI S:=⟨NQ s.heap,s.bS⟩
theorem B8: ∀{h:List (Nat×TB B.S)}{id:Nat}{b:TB B.S},bH (NQ h) id=some b->bH h id=some b
 | [],id,b,h=>h
 |(i,c)::r,id,b,h=>by
  unfold NQ at h
  split at h
  ·rw[fw]at h
   split at h
   ·cases h
   ·rename_i eJ
    simp only[cG]
    rw[if_neg eJ]
    exact B8 h
  ·simp only[cG]at h |-
   split at h
   ·rename_i e;rw[if_pos e];exact h
   ·rename_i e;rw[if_neg e];exact B8 h
theorem B9{β:Type}{p:Nat×β}{i:Nat}: ∀{l:List (Nat×β)},p∈eh l i->p∈l
 | [],h=>h
 |(k,x)::r,h=>by
  simp only[eh]at h
  split at h
  ·exact Iv _ (B9 h)
  ·simp only[mB]at h |-
   rcases h with h|h
   ·exact .inl h
   ·exact .inr (B9 h)
theorem F4{p:Nat×TB B.S}: ∀{l:List (Nat×TB B.S)},p∈NQ l->p∈l
 | [],h=>h
 |(k,x)::r,h=>by
  unfold NQ at h
  split at h
  ·exact Iv _ (F4 (B9 h))
  ·simp only[mB]at h |-
   rcases h with h|h
   ·exact .inl h
   ·exact .inr (F4 h)
theorem DM{i:Nat}: ∀{h:List (Nat×TB B.S)},(∀p∈h,fI p.2=true->fC p.1 i=true/\p.1≠i)->gX h i=true
 | [],_=>rfl
 |(k,x)::r,h=>by
  have ih:=DM (i:=i) (h:=r) λp hp=>h p (by simp[hp])
  have h0:=h (k,x) (by simp)
  cases x with
  |fr c cl pre n post=>
   obtain⟨h1,h2⟩:=h0 rfl
   simp only[gX,h1,ih,Bool.and_true,Tg,pC]
   cases hq:Nat.beq k i with
   |false=>rfl
   |true=>exact absurd (iU hq) h2
  |_=>exact ih
theorem Qp: ∀{h:List (Nat×TB B.S)},pc h=true->lS B (NQ h)=lS B h
 | [],_=>rfl
 |(k,x)::r,hw=>by
  simp only[pc,eW]at hw
  have ih:=Qp hw.2
  unfold NQ
  split
  ·have hd:gX (NQ r) k=true:=DM λp hp hf=>by
    have:=py.1 hw.1 p (F4 hp)
    simp only[lD,hf,cond_true,eW,pC]at this
    exact⟨this.2.1,λe=>zG this.2.2 e.symm⟩
   rw[(Ht hd).1,ih];rfl
  ·simp only[lS,ih]
def Jq(B:iP)(h:List (Nat×TB B.S)):Bool:=h.all λp=>!(tg (fB B p.2))
theorem wT{a b:List (Nat×gp)}:mJ (a++b)=(mJ a&&mJ b):=by
 induction a with
 |nil=>rfl
 |cons p r ih=>obtain⟨k,x⟩:=p;simp only[vT,mJ,ih,Bool.and_assoc]
theorem Vz{l:List (ZB B.S)}: ∀{i:Nat},mJ (jv B i l)=true:=by
 induction l with
 |nil=>intro i;rfl
 |cons z r ih=>intro i;simp only[jv,mJ,ih,Lb,tg];rfl
theorem Qq{c w:Nat}{l:List (B.S c)}: ∀{i:Nat},mJ (gk B c w i l)=true:=by
 induction l with
 |nil=>intro i;rfl
 |cons y r ih=>
  intro i
  unfold gk
  cases Nat.blt i cO
  ·rfl
  ·simp only[cond_true,wT,Vz,ih];rfl
theorem wH{h:List (Nat×TB B.S)}{n:Nat}(hd:Jq B h=true):mJ (df B ⟨h,n⟩).heap=true:=by
 simp only[df,wT,eW]
 constructor
 ·induction h with
  |nil=>rfl
  |cons p r ih=>
   obtain⟨k,x⟩:=p
   simp only[Jq,WE,eW]at hd
   simp only[kh,mJ,hd.1,ih (by simpa[Jq]using hd.2)];rfl
 ·clear hd
  induction h with
  |nil=>rfl
  |cons p r ih=>
   obtain⟨k,x⟩:=p
   simp only[lS,wT,ih,Bool.and_true]
   unfold eH
   split
   ·rename_i c cl pre m post
    cases cl
    ·simp only[cond_false,wT,Qq];rfl
    ·simp only[cond_true,qY,Qq]
   ·rfl
def AB(B:iP)(s:dI B.S):Bool:=pc s.heap&&Jq B (DL s).heap
theorem DN{s:dI B.S}(h:AB B s=true):Fj (df B (DL s)) (df B s):=by
 simp only[AB,eW]at h
 obtain⟨hw,hd⟩:=h
 refine⟨λid b hg=>⟨?_,λe=>nD (wH (n:=s.bS) hd) id (by rw[<-e];exact hg)⟩,eu _⟩
 simp only[df,DL,Qp hw]at hg |-
 rw[cU]at hg |-
 split at hg
 ·rename_i x hx
  cases hg
  rw[fP]at hx
  obtain⟨c,hc,e⟩:=GH.1 hx
  rw[fP,B8 hc,<-e];rfl
 ·obtain⟨w,b',h1,h2⟩:=xH hw hg
  rw[(Hc hw h1 h2).1];exact hg
def Mi(B:iP)(P:Program)(rs:List ResultVar)(M:TM B.S):Option (AV×iH):=match M.o with
 |.out e=>(match M.k with
  | []=>bif (match e with|.ret=>true|.normal=>true|_=>false)&&AB B M.s then(match Mh B P M.bI M.s rs with
   |some l=>(match DH (match l with| [x]=>x|l=>.dW l) (DL M.s)with
    |(v,_,q)=>bif v.cl then some (dN (v.er B.E),q)else none)
   |none=>none)else none
  |_=>none)
 |_=>none
def Zx(o:Option (AV×iH)):Option AV:=o.map (·.1)
def VA(o:Option (AV×iH)):iH:=match o with
 |some (_,q)=>q
 |none=>[]
theorem cA{rs:List ResultVar}{X:α->TV B.S}{x a:α}(h:some x=some a)(hx:(Zx (Mi B P rs (G B P N M).1),(VA (Mi B P rs (G B P N M).1)).map Prod.fst,(G B P N M).2.map Prod.fst)=
   (some ((X x).er B.E),(VA (Mi B P rs (G B P N M).1)).map Prod.snd,(G B P N M).2.map Prod.snd):=by kernel_rfl):RT B P N none (IP P rs.toArray (KX B X a)) M:=by
 cases h
 simp only[Prod.mk.injEq]at hx
 obtain⟨h1,h2,h3⟩:=hx
 refine rk h3 ⟨?_⟩
 have h2:=dQ h2
 generalize(G B P N M).1=g at *
 obtain⟨o,k,bI,s⟩:=g
 cases hr:Mi B P rs ⟨o,k,bI,s⟩with
 |none=>rw[hr]at h1;cases h1
 |some p=>
  obtain⟨v,q⟩:=p
  rw[hr]at h1 h2
  have Nt:v=(X x).er B.E:=Option.some.inj h1
  have It: ∀p∈q,p.1=p.2:=h2
  clear h1 h2
  unfold Mi at hr
  split at hr
  ·rename_i e ho
   simp only at ho;subst ho
   split at hr
   ·rename_i hk
    simp only at hk;subst hk
    generalize Zy:(match e with|.ret=>true|.normal=>true|_=>false)=b0 at hr
    cases hq:(b0&&AB B s)with
    |false=>simp only[hq,cond_false]at hr;cases hr
    |true=>
     simp only[hq,cond_true]at hr
     simp only[eW]at hq
     have he:e=.ret\/e=.normal:=by
      rw[hq.1]at Zy
      cases e<;>simp_all
     split at hr
     ·rename_i l hl
      have hl:=B7 hl
      generalize hy:(match l with| [x]=>x|l=>TV.dW l)=y at hr
      have E4:lb P rs.toArray (ez B bI) (df B s)=some (y.er B.E):=by
       unfold lb
       simp only[hl]
       subst hy
       cases l with
       |nil=>rfl
       |cons x r=>cases r<;>rfl
      cases hc:(DH y (DL s)).1.cl with
      |false=>simp only[hc,cond_false]at hr;cases hr
      |true=>
       simp only[hc,cond_true]at hr
       cases hr
       have hf:=HI (B:=B) y (DL s) hc It
       have DO:Fj (df B (DL s)) (df B s):=DN hq.2
       have hK:KX B X x (y.er B.E) (df B (DL s)):=by
        unfold KX;rw[hf];exact Nt
       rcases he with rfl|rfl
       ·exactλG w a hn=>hn.after ⟨_,_,E4,DO,hK⟩
       ·exactλG w a hn=>hn.after ⟨_,_,E4,DO,hK⟩
     ·cases hr
   ·cases hr
  ·cases hr
end
end Go.Am
