/- The logic AM, Y: walks on typed states: functions, ways that meet, loops. -/
import Derived.Test.YtpbahncblggodaaGreatAmF
set_option linter.all false
namespace Go.Am
open Go.RowKit
abbrev iT:=List (AV×AV)
def rV(a b:Option iT):Option iT:=match a with
 |some x=>match b with
  |some y=>some (x++y)
  |none=>none
 |none=>none
theorem fY{a b:Option iT}{q:iT}(h:rV a b=some q)(hq: ∀p∈q,p.1=p.2):(∃x,a=some x/\ ∀p∈x,p.1=p.2)/\ ∃y,b=some y/\ ∀p∈y,p.1=p.2:=by
 unfold rV at h
 split at h
 ·split at h
  ·cases h
   exact⟨⟨_,rfl,λp hp=>hq p (Dn _ hp)⟩,_,rfl,λp hp=>hq p (FA _ hp)⟩
  ·cases h
 ·cases h
section
variable {S:Nat->Type}
mutual
def TV.cl:TV S->Bool
 |.a x=>x.dy
 |.i _ _=>true
 |.b _=>true
 |.z _=>true
 |.v _ _=>true
 |.l _ _ _=>true
 |.s _ cs=>Ep cs
 |.agg cs=>Ep cs
 |.ec cs=>Ep cs
 |.ip cs=>Ep cs
 |.fn _ cs=>Ep cs
 |.pt _ _ _=>false
def Ep:List (TV S)->Bool
 | []=>true
 |x::r=>x.cl&&Ep r
end
end
section
variable {B:jc}
theorem la(c:Nat)(x:List (B.S c)):eQ (x.map (B.E c))=true:=ep.2 λy hy=>by
 obtain⟨z,_,rfl⟩:=jJ.1 hy
 exact B.hc c z
mutual
theorem Bu: ∀{x:TV B.S},x.cl=true->(x.er B.E).dy=true
 |.a x,h=>h
 |.i _ _,_=>rfl
 |.b _,_=>rfl
 |.z _,_=>rfl
 |.v c x,_=>B.hc c x
 |.l _ c x,_=>la c x
 |.s _ cs,h=>nD (l:=cs) h
 |.agg cs,h=>nD (l:=cs) h
 |.ec cs,h=>nD (l:=cs) h
 |.ip cs,h=>nD (l:=cs) h
 |.fn _ cs,h=>nD (l:=cs) h
 |.pt _ _ _,h=>by cases h
theorem nD: ∀{l:List (TV B.S)},Ep l=true->eQ (dY B.E l)=true
 | [],_=>rfl
 |x::r,h=>by
  simp only[Ep,fi]at h
  simp only[dY,eQ,fi]
  exact⟨Bu h.1,nD h.2⟩
end
end
section
variable (B:jc)
def S5(x:TV B.S):Option (List AV):=match x.norm B with
 |.l _ c y=>some (y.map (B.E c))
 |.s _ cs=>some (dY B.E cs)
 |.a (.sl _ l)=>some l
 |_=>none
def coA(ok:Nat->Bool)(π:Nat->Nat)(x y:AV):Option iT:=match x with
 |.mp id e o=>(match y with
  |.mp fG e' o'=>bif ok id&&Nat.beq (π id) fG then some [(.mp 0 e o,.mp 0 e' o')]else none
  |_=>none)
 |.ms id a b=>(match y with
  |.ms fG a' b'=>bif ok id&&Nat.beq (π id) fG then some [(.mp 0 a b,.mp 0 a' b')]else none
  |.sl true []=>some [(.mp 0 0 b,.mp 0 0 0)]
  |_=>none)
 |.kK id=>(match y with
  |.kK fG=>bif ok id&&Nat.beq (π id) fG then some []else none
  |_=>none)
 |x=>bif x.dy then some [(x,y)]else none
def CH{S:Nat->Type}:TV S->Option (Nat×Nat×Nat)
 |.pt id a b=>some (id,a,b)
 |.a (.ms id a b)=>some (id,a,b)
 |_=>none
def sV{S:Nat->Type}:TV S->Bool
 |.a (.ms _ a _)=>Nat.beq a 0
 |_=>false
def MR(b b':Nat)(x y:Option (TB B.S)):Option iT:=match x with
 |some (.ls _ c x n _)=>(match y with
  |some (.ls _ c' x' n' _)=>some [(.mp 0 0 b,.mp 0 0 n),(.mp 0 0 b',.mp 0 0 n'),(.sl false (x.map (B.E c)),.sl false (x'.map (B.E c')))]
  |some (.cH _ l)=>some [(.mp 0 0 b,.mp 0 0 n),(.mp 0 0 b',.mp 0 0 l.length),(.sl false (x.map (B.E c)),.sl false (dY B.E l))]
  |_=>none)
 |_=>none
abbrev Oz(S:Nat->Type):=List (Nat×TB S)×List (Nat×TB S)
def S6(hp:Oz B.S)(ok:Nat->Bool)(π:Nat->Nat)(w:Bool)(id a b:Nat)(y:TV B.S):Option iT:=match CH y with
 |some (fG,a',b')=>bif ok id&&Nat.beq (π id) fG then(match(bif w&&sV y then MR B b b' (bH hp.1 id) (bH hp.2 fG)else none)with
   |some q=>some q
   |none=>some [(.mp 0 a b,.mp 0 a' b')])else none
 |none=>match y with
  |.a (.sl true [])=>some [(.mp 0 0 b,.mp 0 0 0)]
  |_=>none
def KI{S:Nat->Type}(f:TV S->TV S->Option iT):List (TV S)->List (TV S)->Option iT
 | [],[]=>some []
 |x::r,y::l=>rV (f x y) (KI f r l)
 |_,_=>none
def CI{S:Nat->Type}(cs:List (TV S)):Bool:=cs.any λx=>match x with
 |.a (.sl true [])=>true
 |_=>false
def aL(S:Nat->Type):List AV->List (TV S)
 | []=>[]
 |x::r=>.a x::aL S r
theorem MS: ∀{l:List AV},dY B.E (aL B.S l)=l
 | []=>rfl
 |x::r=>by simp only[aL,dY,TV.er,MS (l:=r)]
def GK(hp:Oz B.S)(ok:Nat->Bool)(π:Nat->Nat):Nat->TV B.S->TV B.S->Option iT
 |0,_,_=>none
 |n+1,x,y=>match CH x with
  |some (id,a,b)=>S6 B hp ok π (sV x) id a b y
  |none=>match x with
   |.a x=>(match y with
    |.a y=>coA ok π x y
    |y=>bif x.dy then some [(x,y.er B.E)]else none)
   |.l false c x=>(match S5 B y with
    |some l=>some [(.sl false (x.map (B.E c)),.sl false l)]
    |none=>none)
   |.fn g cs=>(match y with
    |.fn g' cs'=>bif Nat.beq g g' then KI (GK hp ok π n) cs cs' else none
    |_=>none)
   |.ec cs=>(match y with
    |.ec cs'=>KI (GK hp ok π n) cs cs'
    |_=>none)
   |.agg cs=>(match y with
    |.agg cs'=>KI (GK hp ok π n) cs cs'
    |.a (.agg l)=>bif Ep cs then some [(.agg (dY B.E cs),.agg l)]else KI (GK hp ok π n) cs (aL B.S l)
    |y=>bif Ep cs then some [(.agg (dY B.E cs),y.er B.E)]else none)
   |.v c x=>(match y with
    |.agg cs'=>bif CI cs' then GK hp ok π n (B.X c x) (.agg cs')else some [(B.E c x,.agg (dY B.E cs'))]
    |.a (.agg l)=>bif CI (aL B.S l)then GK hp ok π n (B.X c x) (.agg (aL B.S l))else some [(B.E c x,.agg l)]
    |y=>some [(B.E c x,y.er B.E)])
   |x=>bif x.cl then some [(x.er B.E,y.er B.E)]else none
def PM(a b:Option (Option Nat)):Bool:=match a with
 |none=>(match b with
  |none=>true
  |_=>false)
 |some none=>(match b with
  |some none=>true
  |_=>false)
 |some (some i)=>(match b with
  |some (some j)=>Nat.beq i j
  |_=>false)
theorem PN{a b:Option (Option Nat)}(h:PM a b=true):a=b:=by
 unfold PM at h
 split at h<;>split at h<;>first|rfl|(cases h;done)|rw[jh h]
def MT{S:Nat->Type}:List (Nat×TV S)->List (Nat×TV S)->Bool
 | [],[]=>true
 |(i,_)::r,(j,_)::l=>Nat.beq i j&&MT r l
 |_,_=>false
def GL{S:Nat->Type}:List (Nat×TV S)->List (TV S)
 | []=>[]
 |(_,x)::r=>x::GL r
def J5{S:Nat->Type}:List (Nat×TV S)->List Nat
 | []=>[]
 |(i,_)::r=>i::J5 r
theorem Io{S:Nat->Type}: ∀{a b:List (Nat×TV S)},MT a b=true->J5 a=J5 b
 | [],[],_=>rfl
 |(i,_)::r,(j,_)::l,h=>by
  simp only[MT,fi]at h
  simp only[J5,jh h.1,Io h.2]
 | [],_::_,h=>by cases h
 |_::_,[],h=>by cases h
theorem Ip: ∀{bI:List (Nat×TV B.S)},eJ B bI=Aj (J5 bI) (dY B.E (GL bI))
 | []=>rfl
 |(i,x)::r=>by simp only[eJ,J5,GL,dY,Aj,Ip (bI:=r)]
def yY(hp:Oz B.S)(ok:Nat->Bool)(π:Nat->Nat)(b b':TB B.S):Option iT:=match b with
 |.cH n l=>(match b' with
  |.cH n' l'=>bif Nat.beq n n' then KI (GK B hp ok π 4) l l' else none
  |.ls n' c x _ _=>bif Nat.beq n n'&&Ep l then some [(.sl false (dY B.E l),.sl false (x.map (B.E c)))]else none
  |_=>none)
 |.ls n c x _ _=>(match b' with
  |.cH n' l'=>bif Nat.beq n n' then some [(.sl false (x.map (B.E c)),.sl false (dY B.E l'))]else none
  |.ls n' c' x' _ _=>bif Nat.beq n n' then some [(.sl false (x.map (B.E c)),.sl false (x'.map (B.E c')))]else none
  |_=>none)
 |.raw b=>(match b with
  |.gr=>(match b' with
   |.raw .gr=>some []
   |_=>none)
  |_=>none)
 |.lp c bI st pd=>(match b' with
  |.lp c' env' zZ pd'=>bif Nat.beq c c'&&Nat.beq st zZ&&PM pd pd'&&MT bI env' then KI (GK B hp ok π 4) (GL bI) (GL env')else none
  |_=>none)
 |.rows n c x v k=>(match b' with
  |.rows n' c' x' v' k'=>bif Nat.beq n n' then rV (some [(.agg [.sl false (x.map (B.E c)),.mp k 0 0],.agg [.sl false (x'.map (B.E c')),.mp k' 0 0])]) (KI (GK B hp ok π 4) v v')else none
  |_=>none)
 |.fm n c w cl pre kO post=>(match b' with
  |.fm n' c' w' S7 MU MV Er=>bif Nat.beq n n'&&Nat.beq c c'&&Nat.beq (π w) w'&&(cl==S7)&&Nat.blt 0 (B.K c)then(match bH hp.1 w with
    |some (.fr c2 Wo Wp n2 Rf)=>bif Nat.beq c2 c&&(Wo==cl)&&Nat.beq n2 kO.length then rV (some [(.agg [.sl false (pre.map (B.E c)),.sl false (post.map (B.E c)),.sl false (pre.map (B.E c)),.sl false (post.map (B.E c))],.agg [.sl false (MU.map (B.E c')),.sl false (Er.map (B.E c')),.sl false (Wp.map (B.E c2)),.sl false (Rf.map (B.E c2))])]) (KI (GK B hp ok π 4) kO MV)else none
    |_=>none)else none
  |.ls n' c' x' _ _=>(match pre with
   | []=>(match kO with
    | []=>(match post with
     | []=>bif Nat.beq n n' then some [(.sl false [],.sl false (x'.map (B.E c')))]else none
     |_=>none)
    |_=>none)
   |_=>none)
  |_=>none)
 |.fr c cl pre n post=>(match b' with
  |.fr c' S7 MU n' Er=>bif Nat.beq c c'&&(cl==S7)&&Nat.beq n n'&&Nat.blt 0 (B.K c)then some [(.agg [.sl false (pre.map (B.E c)),.sl false (post.map (B.E c))],.agg [.sl false (MU.map (B.E c')),.sl false (Er.map (B.E c'))])]else none
  |_=>none)
def Yg(b:TB B.S):Option iT:=match b with
 |.cH n l=>bif Nat.blt 0 n then some [(.sl false (dY B.E l),.sl false [])]else none
 |.ls n c x _ _=>bif Nat.blt 0 n then some [(.sl false (x.map (B.E c)),.sl false [])]else none
 |.raw _=>none
 |.lp _ _ _ _=>none
 |.rows _ _ _ _ _=>none
 |.fm n _ _ _ pre kO post=>(match pre with
  | []=>(match kO with
   | []=>(match post with
    | []=>bif Nat.blt 0 n then some []else none
    |_=>none)
   |_=>none)
  |_=>none)
 |.fr _ _ pre _ post=>(match pre with
  | []=>(match post with
   | []=>some []
   |_=>none)
  |_=>none)
def S8(hp:Oz B.S)(ok:Nat->Bool)(π:Nat->Nat)(bI:dK B.S):dK B.S->Option iT
 | []=>some []
 |(t,x)::r=>rV (match bH bI t with
  |some y=>GK B hp ok π 4 x y
  |none=>none) (S8 hp ok π bI r)
def MW(hp:Oz B.S)(ok:Nat->Bool)(π:Nat->Nat)(bR:Nat)(s:dP B.S):List (Nat×TB B.S)->Option iT
 | []=>some []
 |(id,b)::r=>rV (match bH s.heap (π id)with
  |some b'=>yY B hp ok π b b'
  |none=>bif Nat.ble bR id&&Nat.ble s.bT (π id)then Yg B b else none) (MW hp ok π bR s r)
def CJ{S:Nat->Type}:TB S->Bool
 |.fr _ _ pre _ post=>(match pre with
  | []=>(match post with
   | []=>true
   |_=>false)
  |_=>false)
 |b=>!(fR b)
def MX(bR:Nat)(L:List (Nat×Nat))(S2 s:dP B.S):Bool:=
 L.all (λp=>Nat.ble bR p.1)&&S2.heap.all (λp=>Nat.blt p.1 S2.bT&&(!(fR p.2)||Nat.blt (pi L p.1) s.bT||CJ p.2)&&S2.heap.all λq=>Nat.beq p.1 q.1||!(Nat.beq (pi L p.1) (pi L q.1))||Nat.ble s.bT (pi L p.1))&&Nat.ble bR S2.bT&&
  (Bf (kC B s.heap) (kC B S2.heap)&&s.heap.all λp=>!tU (fx B p.2)||Nat.blt p.1 bR)&&
  (pN S2.heap&&pN s.heap&&Bg S2.bT S2.heap&&Bg s.bT s.heap&&(jF L s.bT S2.heap).all λv=>Nat.ble bR v.1||Nat.beq v.1 v.2)
def Mc(bR:Nat)(L:List (Nat×Nat))(E2:dK B.S)(S2:dP B.S)(bI:dK B.S)(s:dP B.S):Option iT:=
 bif MX B bR L S2 s then rV (S8 B (S2.heap,s.heap) (gw bR (dl B S2).heap) (pw L (jF L s.bT S2.heap)) bI E2) (MW B (S2.heap,s.heap) (gw bR (dl B S2).heap) (pw L (jF L s.bT S2.heap)) bR s S2.heap)else none
end
section
variable {B:jc} {ok:Nat->Bool} {π:Nat->Nat} {hp:Oz B.S}
theorem Iq{x:TV B.S}{id a b:Nat}(h:CH x=some (id,a,b)):x.er B.E=.ms id a b:=by
 unfold CH at h
 split at h<;>first|(cases h;rfl)|cases h
theorem PO{x:TV B.S}{l:List AV}(h:S5 B x=some l): ∃b,x.er B.E=.sl b l:=by
 unfold S5 at h
 rw[<-fE x]
 generalize x.norm B=y at h
 split at h<;>first|(cases h;exact⟨_,rfl⟩)|cases h
theorem one{a b:AV}{q:iT}(h:some [(a,b)]=some q)(hq: ∀p∈q,p.1=p.2):a=b:=by cases h;exact hq (a,b) (by simp)
theorem S9{x y:AV}{q:iT}(h:coA ok π x y=some q)(hq: ∀p∈q,p.1=p.2):Co ok π x y:=by
 have gen: ∀{x:AV},(bif x.dy then some [(x,y)]else none)=some q->Co ok π x y:=λ{x}h=>by
  cases hc:x.dy with
  |false=>rw[hc]at h;cases h
  |true=>
   rw[hc]at h
   have:=one h hq
   subst this
   exact .c hc
 cases x with
 |mp id e o=>
  cases y<;>first|(cases h;done)|skip
  rename_i fG e' o'
  have h:(bif ok id&&Nat.beq (π id) fG then some [(AV.mp 0 e o,AV.mp 0 e' o')]else none)=some q:=h
  cases hb:(ok id&&Nat.beq (π id) fG)with
  |false=>rw[hb]at h;cases h
  |true=>
   rw[hb]at h
   simp only[fi]at hb
   have:=one h hq
   cases this
   exact .mp hb.1 (jh hb.2)
 |ms id a b=>
  cases y<;>first|(cases h;done)|skip
  ·rename_i f l
   cases f<;>cases l<;>first|(cases h;done)|skip
   have:=one h hq
   cases this
   exact .n
  ·rename_i fG a' b'
   have h:(bif ok id&&Nat.beq (π id) fG then some [(AV.mp 0 a b,AV.mp 0 a' b')]else none)=some q:=h
   cases hb:(ok id&&Nat.beq (π id) fG)with
   |false=>rw[hb]at h;cases h
   |true=>
    rw[hb]at h
    simp only[fi]at hb
    have:=one h hq
    cases this
    exact .ms hb.1 (jh hb.2)
 |bool _=>exact gen h
 |int _ _=>exact gen h
 |str _=>exact gen h
 |iE=>exact gen h
 |mV=>exact gen h
 |sl _ _=>exact gen h
 |ip _=>exact gen h
 |mc _ _ _ _=>exact gen h
 |fn _ _=>exact gen h
 |kK id=>
  cases y<;>first|(cases h;done)|skip
  rename_i fG
  have h:(bif ok id&&Nat.beq (π id) fG then some []else none)=some q:=h
  cases hb:(ok id&&Nat.beq (π id) fG)with
  |false=>rw[hb]at h;cases h
  |true=>
   simp only[fi]at hb
   exact .y hb.1 (jh hb.2)
 |agg _=>exact gen h
 |ec _=>exact gen h
 |any=>exact gen h
theorem MY{b b':Nat}{x y:Option (TB B.S)}{q:iT}(h:MR B b b' x y=some q)(hq: ∀p∈q,p.1=p.2):b=b':=by
 unfold MR at h
 split at h
 ·rename_i cB c x n hn
  split at h
  ·rename_i SB c' x' n' mu
   cases h
   have h1:=hq (.mp 0 0 b,.mp 0 0 n) (by simp)
   have h2:=hq (.mp 0 0 b',.mp 0 0 n') (by simp)
   have h3:=hq (.sl false (x.map (B.E c)),.sl false (x'.map (B.E c'))) (by simp)
   injection h1 with _ _ h1
   injection h2 with _ _ h2
   injection h3 with _ h3
   have:=fA List.length h3
   simp only[mB]at this
   omega
  ·rename_i SB l
   cases h
   have h1:=hq (.mp 0 0 b,.mp 0 0 n) (by simp)
   have h2:=hq (.mp 0 0 b',.mp 0 0 l.length) (by simp)
   have h3:=hq (.sl false (x.map (B.E c)),.sl false (dY B.E l)) (by simp)
   injection h1 with _ _ h1
   injection h2 with _ _ h2
   injection h3 with _ h3
   have:=fA List.length h3
   simp only[mB,gN]at this
   omega
  ·cases h
 ·cases h
theorem Bv{x:TV B.S}{id a b:Nat}(h:sV x=true)(hm:CH x=some (id,a,b)):a=0:=by
 unfold sV at h
 split at h
 ·cases hm;exact jh h
 ·cases h
theorem PP{x y:TV B.S}{id a b:Nat}{q:iT}(hx:CH x=some (id,a,b))(h:S6 B hp ok π (sV x) id a b y=some q)(hq: ∀p∈q,p.1=p.2):Co ok π (.ms id a b) (y.er B.E):=by
 unfold S6 at h
 cases hm:CH y with
 |some p=>
  obtain⟨fG,a',b'⟩:=p
  rw[hm]at h
  rw[Iq hm]
  simp only at h
  cases hb:(ok id&&Nat.beq (π id) fG)with
  |false=>rw[hb]at h;cases h
  |true=>
   rw[hb]at h
   simp only[fi]at hb
   simp only[cS]at h
   split at h
   ·rename_i q' hl
    cases h
    cases hw:(sV x&&sV y)with
    |false=>rw[hw]at hl;cases hl
    |true=>
     rw[hw]at hl
     simp only[fi]at hw
     have e1:=Bv hw.1 hx
     have e2:=Bv hw.2 hm
     subst e1;subst e2
     exact .e hb.1 (jh hb.2) (MY hl hq)
   ·have:=one h hq
    cases this
    exact .ms hb.1 (jh hb.2)
 |none=>
  rw[hm]at h
  simp only at h
  split at h
  ·have:=one h hq
   cases this
   exact .n
  ·cases h
theorem mL{f:TV B.S->TV B.S->Option iT}(hf: ∀x y q,f x y=some q->(∀p∈q,p.1=p.2)->Co ok π (x.er B.E) (y.er B.E)): ∀{xs ys:List (TV B.S)}{q:iT},KI f xs ys=some q->(∀p∈q,p.1=p.2)->sw ok π (dY B.E xs) (dY B.E ys)
 | [],[],_,_,_=>.z
 |x::r,y::l,q,h,hq=>by
  obtain⟨⟨q1,h1,e1⟩,q2,h2,e2⟩:=fY h hq
  exact .k (hf x y q1 h1 e1) (mL hf h2 e2)
 | [],_::_,_,h,_=>by cases h
 |_::_,[],_,h,_=>by cases h
theorem jR: ∀{n:Nat}{x y:TV B.S}{q:iT},GK B hp ok π n x y=some q->(∀p∈q,p.1=p.2)->Co ok π (x.er B.E) (y.er B.E)
 |0,_,_,_,h,_=>by cases h
 |n+1,x,y,q,h,hq=>by
  unfold GK at h
  split at h
  ·rename_i id a b hm
   rw[Iq hm]
   exact PP hm h hq
  ·rename_i hm
   split at h
   ·rename_i x0
    have gen: ∀{z:AV},(bif x0.dy then some [(x0,z)]else none)=some q->Co ok π x0 z:=λ{z}h=>by
     cases hc:x0.dy with
     |false=>rw[hc]at h;cases h
     |true=>
      rw[hc]at h
      have:=one h hq
      rw[<-this]
      exact .c hc
    split at h
    ·exact S9 h hq
    ·exact gen h
   ·rename_i c x
    split at h
    ·rename_i l hl
     obtain⟨b,hb⟩:=PO hl
     have:=one h hq
     cases this
     rw[hb]
     exact .s (la c x)
    ·cases h
   ·rename_i g cs
    split at h
    ·rename_i g' cs'
     cases hb:Nat.beq g g' with
     |false=>simp[hb]at h
     |true=>
      simp only[hb,cS]at h
      have e:=jh hb
      subst e
      exact .f (mL (λ_ _ _=>jR) h hq)
    ·cases h
   ·split at h
    ·exact .t (mL (λ_ _ _=>jR) h hq)
    ·cases h
   ·rename_i cs
    split at h
    ·exact .a (mL (λ_ _ _=>jR) h hq)
    ·rename_i l
     cases hc:Ep cs with
     |false=>
      simp only[hc,dj]at h
      have:=mL (λ_ _ _=>jR) h hq
      rw[MS]at this
      exact .a this
     |true=>
      simp only[hc,cS]at h
      have:=one h hq
      show Co ok π (.agg (dY B.E cs)) _
      rw[TV.er,<-this]
      exact .c (nD (B:=B) hc)
    ·cases hc:Ep cs with
     |false=>simp[hc]at h
     |true=>
      simp only[hc,cS]at h
      have:=one h hq
      rw[<-this]
      exact .c (nD (B:=B) hc)
   ·rename_i c x
    split at h
    ·rename_i cs'
     cases hb:CI cs' with
     |true=>
      simp only[hb,cS]at h
      have:=jR h hq
      rw[B.hX]at this
      exact this
     |false=>
      simp only[hb,dj]at h
      have:=one h hq
      show Co ok π (B.E c x) _
      rw[TV.er,<-this]
      exact .c (B.hc c x)
    ·rename_i l
     cases hb:CI (aL B.S l)with
     |true=>
      simp only[hb,cS]at h
      have:=jR h hq
      rw[B.hX,TV.er,MS]at this
      exact this
     |false=>
      simp only[hb,dj]at h
      have:=one h hq
      show Co ok π (B.E c x) _
      rw[TV.er,<-this]
      exact .c (B.hc c x)
    ·have:=one h hq
     show Co ok π (B.E c x) _
     rw[<-this]
     exact .c (B.hc c x)
   ·have gen: ∀{z:TV B.S}{w:AV},(bif z.cl then some [(z.er B.E,w)]else none)=some q->Co ok π (z.er B.E) w:=λ{z w}h=>by
     cases hc:z.cl with
     |false=>rw[hc]at h;cases h
     |true=>
      rw[hc]at h
      have:=one h hq
      rw[<-this]
      exact .c (Bu hc)
    exact gen h
theorem MZ(n:Nat):eQ (List.replicate n (AV.sl true []))=true:=by
 induction n with
 |zero=>rfl
 |succ n ih=>simp only[List.replicate_succ,eQ,ih,AV.dy,Bool.and_self]
theorem CK(hF:yx B hp.1 ok π){b b':TB B.S}{q:iT}(h:yY B hp ok π b b'=some q)(hq: ∀p∈q,p.1=p.2):Bd ok π (fx B b) (fx B b'):=by
 unfold yY at h
 split at h
 ·rename_i n l
  split at h
  ·rename_i n' l'
   cases hb:Nat.beq n n' with
   |false=>simp[hb]at h
   |true=>
    simp only[hb,cS]at h
    have e:=jh hb
    subst e
    exact .cells (mL (λ_ _ _=>jR) h hq)
  ·rename_i n' c x _ _
   cases hb:Nat.beq n n'&&Ep l with
   |false=>simp[hb]at h
   |true=>
    simp only[hb,cS]at h
    simp only[fi]at hb
    have e:=jh hb.1
    subst e
    have:=one h hq
    injection this with _ this
    simp only[fx,<-this]
    exact .cells (.r (nD (B:=B) hb.2))
  ·cases h
 ·rename_i n c x _ _
  split at h
  ·rename_i n' l'
   cases hb:Nat.beq n n' with
   |false=>simp[hb]at h
   |true=>
    simp only[hb,cS]at h
    have e:=jh hb
    subst e
    have:=one h hq
    injection this with _ this
    simp only[fx,<-this]
    exact .cells (.r (la c x))
  ·rename_i n' c' x' _ _
   cases hb:Nat.beq n n' with
   |false=>simp[hb]at h
   |true=>
    simp only[hb,cS]at h
    have e:=jh hb
    subst e
    have:=one h hq
    injection this with _ this
    simp only[fx,<-this]
    exact .cells (.r (la c x))
  ·cases h
 ·split at h
  ·split at h
   ·exact .gr
   ·cases h
  ·cases h
 ·rename_i c bI st pd
  split at h
  ·rename_i c' env' zZ pd'
   cases hb:Nat.beq c c'&&Nat.beq st zZ&&PM pd pd'&&MT bI env' with
   |false=>simp[hb]at h
   |true=>
    simp only[hb,cS]at h
    simp only[fi]at hb
    obtain⟨⟨⟨e1,e2⟩,e3⟩,e4⟩:=hb
    have e1:=jh e1
    have e2:=jh e2
    have e3:=PN e3
    subst e1;subst e2;subst e3
    simp only[fx,Ip,Io e4]
    exact .loop (mL (λ_ _ _=>jR) h hq)
  ·cases h
 ·rename_i n c x v k
  split at h
  ·rename_i n' c' x' v' k'
   cases hb:Nat.beq n n' with
   |false=>simp[hb]at h
   |true=>
    simp only[hb,cS]at h
    have e:=jh hb
    subst e
    obtain⟨⟨q1,h1,e1⟩,q2,h2,e2⟩:=fY h hq
    have:=one h1 e1
    simp only[AV.agg.injEq,List.cons.injEq,AV.sl.injEq,AV.mp.injEq,OL,Qx]at this
    obtain⟨hm,hk⟩:=this
    subst hk
    simp only[fx,<-hm]
    exact .cells (.p (.r (la c x)) (.p (mL (λ_ _ _=>jR) h2 e2) (.r (MZ k))))
  ·cases h
 ·rename_i n c w cl pre kO post
  split at h
  ·rename_i n' c' w' S7 MU MV Er
   cases hb:Nat.beq n n'&&Nat.beq c c'&&Nat.beq (π w) w'&&(cl==S7)&&Nat.blt 0 (B.K c)with
   |false=>simp[hb]at h
   |true=>
    simp only[hb,cS]at h
    simp only[fi,beq_iff_eq,rO]at hb
    obtain⟨⟨⟨⟨e1,e2⟩,e3⟩,e4⟩,hk⟩:=hb
    have e1:=jh e1
    have e2:=jh e2
    have e3:=jh e3
    subst e1;subst e2;subst e3;subst e4
    split at h
    ·rename_i c2 Wo Wp n2 Rf hg
     cases xf:Nat.beq c2 c&&(Wo==cl)&&Nat.beq n2 kO.length with
     |false=>simp[xf]at h
     |true=>
      simp only[xf,cS]at h
      simp only[fi,beq_iff_eq]at xf
      obtain⟨⟨e5,e6⟩,e7⟩:=xf
      have e5:=jh e5
      have e7:=jh e7
      subst e5;subst e6;subst e7
      obtain⟨⟨q1,h1,e1⟩,q2,h2,e2⟩:=fY h hq
      have:=one h1 e1
      simp only[AV.agg.injEq,List.cons.injEq,AV.sl.injEq,OL,Qx]at this
      obtain⟨m1,m2,m3,m4⟩:=this
      have m1:=map_inj hk m1
      have m2:=map_inj hk m2
      have m3:=map_inj hk m3
      have m4:=map_inj hk m4
      subst m1;subst m2;subst m3;subst m4
      have As:=mL (λ_ _ _=>jR) h2 e2
      have QB:MV.length=kO.length:=by have:=As.length;rw[gN,gN]at this;exact this.symm
      have hf:=hF w _ hg
      simp only[eR]at hf
      simp only[fx,QB]
      refine .cells (.p ?_ (.p As ?_))
      ·cases Wo with
       |true=>exact .r (la c2 pre)
       |false=>exact re λid x hx=>hf id x (by simp only[dj];rw[cZ,hx])
      ·refine re λid x hx=>?_
       cases hq:bH (bif Wo then []else gx B c2 w 0 pre) id with
       |some y=>exact hf id y (by rw[cZ,hq])
       |none=>exact hf id x (by rw[cZ,hq];exact hx)
    ·cases h
  ·rename_i n' c' x' _ _
   split at h
   ·split at h
    ·split at h
     ·cases hb:Nat.beq n n' with
      |false=>simp[hb]at h
      |true=>
       simp only[hb,cS]at h
       have e:=jh hb
       subst e
       have:=one h hq
       injection this with _ this
       simp only[fx,<-this]
       cases cl<;>exact .cells .z
     ·cases h
    ·cases h
   ·cases h
  ·cases h
 ·split at h
  ·exact .cells .z
  ·cases h
theorem xw{c n:Nat}{cl:Bool}{pre post:List (B.S c)}{b':TB B.S}{q:iT}(h:yY B hp ok π (.fr c cl pre n post) b'=some q)(hq: ∀p∈q,p.1=p.2):b'=.fr c cl pre n post:=by
 unfold yY at h
 simp only at h
 split at h
 ·rename_i c' S7 MU n' Er
  cases hb:Nat.beq c c'&&(cl==S7)&&Nat.beq n n'&&Nat.blt 0 (B.K c)with
  |false=>simp[hb]at h
  |true=>
   simp only[hb,cS]at h
   simp only[fi,beq_iff_eq,rO]at hb
   obtain⟨⟨⟨e1,e2⟩,e3⟩,hk⟩:=hb
   have e1:=jh e1
   have e3:=jh e3
   subst e1;subst e2;subst e3
   have:=one h hq
   simp only[AV.agg.injEq,List.cons.injEq,AV.sl.injEq,OL,Qx]at this
   rw[map_inj hk this.1,map_inj hk this.2]
 ·cases h
theorem Ta{b:TB B.S}{q:iT}(h:Yg B b=some q)(hq: ∀p∈q,p.1=p.2): ∃cB,0<cB/\fx B b=.cells cB []:=by
 unfold Yg at h
 split at h
 ·rename_i n l
  cases hb:Nat.blt 0 n with
  |false=>simp[hb]at h
  |true=>
   simp only[hb,cS]at h
   have:=one h hq
   injection this with _ this
   exact⟨n,by simpa[rO]using hb,by simp only[fx,this]⟩
 ·rename_i n c x _ _
  cases hb:Nat.blt 0 n with
  |false=>simp[hb]at h
  |true=>
   simp only[hb,cS]at h
   have:=one h hq
   injection this with _ this
   exact⟨n,by simpa[rO]using hb,by simp only[fx,this]⟩
 ·cases h
 ·cases h
 ·cases h
 ·rename_i n c w cl pre kO post
  split at h
  ·split at h
   ·split at h
    ·cases hb:Nat.blt 0 n with
     |false=>simp[hb]at h
     |true=>exact⟨n,by simpa[rO]using hb,by cases cl<;>rfl⟩
    ·cases h
   ·cases h
  ·cases h
 ·exact⟨1,by decide,rfl⟩
theorem Ir{bI:dK B.S}: ∀{E2:dK B.S}{q:iT},S8 B hp ok π bI E2=some q->(∀p∈q,p.1=p.2)-> ∀t x,bH (eJ B E2) t=some x-> ∃y,bH (eJ B bI) t=some y/\Co ok π x y
 | [],_,_,_,t,x,hx=>by simp[eJ,cV]at hx
 |(k,X)::r,q,h,hq,t,x,hx=>by
  obtain⟨⟨q1,h1,e1⟩,q2,h2,e2⟩:=fY h hq
  simp only[eJ,cM]at hx
  split at hx
  ·rename_i e;subst e;cases hx
   split at h1
   ·rename_i y hy
    exact⟨_,by rw[lB,hy];rfl,jR h1 e1⟩
   ·cases h1
  ·exact Ir h2 e2 t x hx
theorem Is(hF:yx B hp.1 ok π){bR:Nat}{s:dP B.S}: ∀{h2:List (Nat×TB B.S)}{q:iT},MW B hp ok π bR s h2=some q->(∀p∈q,p.1=p.2)->QV ok π bR (dl B s) (kC B h2)
 | [],_,_,_=>.z
 |(id,b)::r,q,h,hq=>by
  obtain⟨⟨q1,h1,e1⟩,q2,h2,e2⟩:=fY h hq
  have ih:=Is hF h2 e2
  split at h1
  ·rename_i b' hb
   exact .k (dp hb) (CK hF h1 e1) ih
  ·cases hc:Nat.ble bR id&&Nat.ble s.bT (π id)with
   |false=>simp[hc]at h1
   |true=>
    simp only[hc,cS]at h1
    simp only[fi]at hc
    obtain⟨cB,h0,he⟩:=Ta h1 e1
    simp only[kC,he]
    exact .n hc.1 hc.2 (by simpa[rO]using h0) ih
theorem It{bR:Nat}{s:dP B.S}{c n:Nat}{cl:Bool}{pre post:List (B.S c)}: ∀{h2:List (Nat×TB B.S)}{q:iT},MW B hp ok π bR s h2=some q->(∀p∈q,p.1=p.2)-> ∀{w:Nat},bH h2 w=some (.fr c cl pre n post)->bH s.heap (π w)=some (.fr c cl pre n post)\/(s.bT<=π w/\pre=[]/\post=[])
 | [],_,_,_,w,hg=>by simp[cV]at hg
 |(id,b)::r,q,h,hq,w,hg=>by
  obtain⟨⟨q1,h1,e1⟩,q2,h2,e2⟩:=fY h hq
  simp only[cM]at hg
  split at hg
  ·rename_i e
   cases hg;subst e
   split at h1
   ·rename_i b' hb
    rw[hb,xw h1 e1];exact .inl rfl
   ·cases hc:Nat.ble bR id&&Nat.ble s.bT (π id)with
    |false=>simp[hc]at h1
    |true=>
     simp only[hc,cS]at h1
     simp only[fi]at hc
     refine .inr ⟨tA hc.2,?_⟩
     simp only[Yg]at h1
     split at h1
     ·split at h1
      ·exact⟨rfl,rfl⟩
      ·cases h1
     ·cases h1
  ·exact It h2 e2 hg
theorem M0{bR:Nat}{s:dP B.S}: ∀{h2:List (Nat×TB B.S)}{q:iT},MW B hp ok π bR s h2=some q->(∀p∈q,p.1=p.2)-> ∀{id:Nat}{b:TB B.S},bH h2 id=some b->(∃b',bH s.heap (π id)=some b')\/s.bT<=π id
 | [],_,_,_,id,_,hg=>by simp[cV]at hg
 |(k,b0)::r,q,h,hq,id,b,hg=>by
  obtain⟨⟨q1,h1,e1⟩,q2,h2,e2⟩:=fY h hq
  simp only[cM]at hg
  split at hg
  ·rename_i e
   subst e
   split at h1
   ·rename_i b' hb;exact .inl ⟨b',hb⟩
   ·cases hc:Nat.ble bR k&&Nat.ble s.bT (π k)with
    |false=>simp[hc]at h1
    |true=>
     simp only[fi]at hc
     exact .inr (tA hc.2)
  ·exact M0 h2 e2 hg
theorem Cs{bR:Nat}{L:List (Nat×Nat)}{E2 bI:dK B.S}{S2 s:dP B.S}{q:iT}(h:Mc B bR L E2 S2 bI s=some q)(hq: ∀p∈q,p.1=p.2):JL bR (pw L (jF L s.bT S2.heap)) (eJ B E2) (dl B S2) (eJ B bI) (dl B s):=by
 unfold Mc at h
 cases hb:MX B bR L S2 s with
 |false=>simp[hb]at h
 |true=>
  simp only[hb,cS]at h
  obtain⟨⟨q1,h1,e1⟩,q2,h2,e2⟩:=fY h hq
  simp only[MX,fi]at hb
  obtain⟨⟨⟨⟨b1,b2⟩,b3⟩,b4,b5⟩,⟨⟨⟨w1,w2⟩,w3⟩,w4⟩,w5⟩:=hb
  have b3:=tA b3
  have key: ∀{id b},bH S2.heap id=some b->id<S2.bT/\(fR b=false\/pi L id<s.bT\/CJ b=true)/\ ∀{fG b'},bH S2.heap fG=some b'->id=fG\/pi L id≠pi L fG\/s.bT<=pi L id:=λ{id b}hg=>by
   have:=dU b2 hg
   simp only[fi,rO,tz,p9]at this
   refine⟨this.1.1,?_,λ{fG b'}kv=>?_⟩
   ·rcases this.1.2 with(h|h)|h
    ·exact .inl h
    ·exact .inr (.inl h)
    ·exact .inr (.inr h)
   have:=dU this.2 kv
   simp only[tz,p9,Ji]at this
   rcases this with(h|h)|h
   ·exact .inl (jh h)
   ·exact .inr (.inl (Aq h))
   ·exact .inr (.inr h)
  have full: ∀{w b id x},bH S2.heap w=some b->bH (eR B w b) id=some x->fR b=true/\fL w id=false/\pi L w<s.bT:=λ{w b id x}hg hx=>by
   obtain⟨f1,f2⟩:=ff hx
   refine⟨f1,f2,?_⟩
   rcases(key hg).2.1 with h|h|h
   ·rw[f1]at h;cases h
   ·exact h
   ·exfalso
    obtain⟨c,cl,pre,n,post,rfl⟩:=lH f1
    unfold CJ at h
    simp only at h
    split at h
    ·split at h
     ·cases cl<;>simp[eR,gx,cV]at hx
     ·cases h
    ·cases h
  have row: ∀{w b id x},bH S2.heap w=some b->bH (eR B w b) id=some x->pw L (jF L s.bT S2.heap) id=pi L w+(id-w):=λ{w b id x}hg hx=>by
   obtain⟨f1,f2,f3⟩:=full hg hx
   exact Gk w1 hg f1 f3 f2
  have hF:yx B S2.heap (gw bR (dl B S2).heap) (pw L (jF L s.bT S2.heap)):=λw b hg id x hx=>⟨qs (jo w1 hg hx),by rw[row hg hx,kX w1 hg]⟩
  have PQ:=Is (hp:=(S2.heap,s.heap)) hF h2 e2
  have Yh: ∀{w b id x},bH S2.heap w=some b->bH (eR B w b) id=some x->bH s.heap (pi L w)=some b/\fL (pi L w) (pi L w+(id-w))=false/\ ∃x',bH (dl B s).heap (pi L w+(id-w))=some x'/\bH (kC B s.heap) (pi L w+(id-w))=none/\Bd (gw bR (dl B S2).heap) (pw L (jF L s.bT S2.heap)) x x':=λ{w b id x}hg hx=>by
   obtain⟨f1,f2,f3⟩:=full hg hx
   obtain⟨c,cl,pre,n,post,rfl⟩:=lH f1
   have hs:bH s.heap (pi L w)=some (.fr c cl pre n post):=by
    rcases It (hp:=(S2.heap,s.heap)) h2 e2 hg with h|⟨h,_⟩
    ·rw[kX w1 hg]at h;exact h
    ·rw[kX w1 hg]at h;omega
   obtain⟨x',pV,hc⟩:=ub (w':=pi L w) (λid x hx=>⟨(hF w _ hg id x hx).1,row hg hx⟩) id x hx
   exact⟨hs,(ff pV).2,x',jo w2 hs pV,(HU w2 hs pV).1,hc⟩
  have not: ∀{w b id x k c},bH S2.heap w=some b->bH (eR B w b) id=some x->bH S2.heap k=some c->pi L k=pi L w+(id-w)->False:=λ{w b id x k c}hg hx hk e=>by
   obtain⟨p1,p2,x',q1,q2,_⟩:=Yh hg hx
   rcases M0 h2 e2 hk with⟨b2,k5⟩|k5
   ·rw[kX w1 hk,e]at k5
    rw[fX,k5]at q2;cases q2
   ·rw[kX w1 hk]at k5
    obtain⟨f1,_⟩:=ff hx
    have:=dU w4 p1
    simp only[f1,p8,Hx]at this
    have:=tA this
    obtain⟨o1,o2⟩:=fe p2
    omega
  refine⟨⟨⟨?_,?_,?_,?_,b3⟩,?_⟩,Ir h1 e1⟩
  ·intro id x hx
   rcases gU w1 hx with⟨b,hg,rfl⟩|⟨hn,w,b,hg,hr⟩
   ·exact PQ.get id _ (by rw[fX,hg];rfl)
   ·obtain⟨_,_,x',q1,_,q3⟩:=Yh hg hr
    exact .inl ⟨x',by rw[row hg hr];exact q1,q3⟩
  ·intro id hl
   unfold pw
   split
   ·rename_i v hv
    obtain⟨v1,v2⟩:=oW hv
    have:=pT.1 w5 v v1
    simp only[tz]at this
    obtain⟨o1,o2⟩:=fe v2
    rcases this with h|h
    ·have:=tA h;omega
    ·have:=jh h;omega
   ·exact Su b1 hl
  ·intro id fG x x' hx pV e
   rcases gU w1 hx with⟨b,hg,rfl⟩|⟨hn,w,b,hg,hr⟩
   ·rw[kX w1 hg]at e |-
    rcases gU w1 pV with⟨b',kv,rfl⟩|⟨mu,w',b',kv,Gj⟩
    ·rw[kX w1 kv]at e
     rcases(key hg).2.2 kv with h|h|h
     ·exact .inl h
     ·exact absurd e h
     ·exact .inr h
    ·rw[row kv Gj]at e
     exact(not kv Gj hg e).elim
   ·rw[row hg hr]at e |-
    rcases gU w1 pV with⟨b',kv,rfl⟩|⟨mu,w',b',kv,Gj⟩
    ·rw[kX w1 kv]at e
     exact(not hg hr kv e.symm).elim
    ·rw[row kv Gj]at e
     obtain⟨p1,p2,_⟩:=Yh hg hr
     obtain⟨p3,p4,_⟩:=Yh kv Gj
     have hp:=lX w2 p1 p3 (full hg hr).1 (full kv Gj).1 p2 (by rw[e];exact p4)
     rcases(key hg).2.2 kv with h|h|h
     ·subst h
      obtain⟨n1,n2⟩:=fe (full hg hr).2.1
      obtain⟨n3,n4⟩:=fe (full kv Gj).2.1
      exact .inl (by omega)
     ·exact absurd hp h
     ·have:=(full hg hr).2.2;omega
  ·intro id x hx
   rcases gU w1 hx with⟨b,hg,rfl⟩|⟨hn,w,b,hg,hr⟩
   ·exact(key hg).1
   ·obtain⟨f1,f2⟩:=ff hr
    have:=dU w3 hg
    simp only[f1,p8,Hx]at this
    have:=tA this
    obtain⟨o1,o2⟩:=fe f2
    show id<S2.bT
    omega
  ·intro id hd
   rcases gU w2 hd with⟨b,hg,hb⟩|⟨hn,w,b,hg,hr⟩
   ·have:=dU b5 hg
    simp only[<-hb,tU,p8,Hx,rO]at this
    refine⟨this,?_⟩
    have:=nY b4 id (by rw[fX,hg,gy,<-hb])
    simp only[dl]
    rw[cZ,this]
   ·exact(nZ hr).elim
end
section
variable {S:Nat->Type}
def OA(f:TV S->TV S->List (Nat×Nat)):List (TV S)->List (TV S)->List (Nat×Nat)
 |x::r,y::l=>f x y++OA f r l
 |_,_=>[]
def OB(GM:Nat):Nat->TV S->TV S->List (Nat×Nat)
 |0,_,_=>[]
 |n+1,x,y=>match CH x with
  |some (i,_,_)=>(match CH y with
   |some (j,_,_)=>[(i,j)]
   |none=>[(i,GM+i)])
  |none=>match x with
   |.a (.mp i _ _)=>(match y with
    |.a (.mp j _ _)=>[(i,j)]
    |_=>[])
   |.a (.kK i)=>(match y with
    |.a (.kK j)=>[(i,j)]
    |_=>[])
   |.fn _ cs=>(match y with
    |.fn _ cs'=>OA (OB GM n) cs cs'
    |_=>[])
   |.ec cs=>(match y with
    |.ec cs'=>OA (OB GM n) cs cs'
    |_=>[])
   |.agg cs=>(match y with
    |.agg cs'=>OA (OB GM n) cs cs'
    |.a (.agg l)=>OA (OB GM n) cs (aL S l)
    |_=>[])
   |_=>[]
def Es(bR:Nat):List (Nat×Nat)->List (Nat×Nat)
 | []=>[]
 |p::r=>bif Nat.ble bR p.1 then p::Es bR r else Es bR r
def prE(GM:Nat)(bI:dK S):dK S->List (Nat×Nat)
 | []=>[]
 |(t,x)::r=>(match bH bI t with
  |some y=>OB GM 4 x y
  |none=>[])++prE GM bI r
def Rh(GM:Nat)(d:Bool)(L:List (Nat×Nat))(h:List (Nat×TB S)):List (Nat×TB S)->List (Nat×Nat)
 | []=>[]
 |(id,b)::r=>(match b with
  |.cH _ l=>(match bH h (pi L id)with
   |some (.cH _ l')=>OA (OB GM 4) l l'
   |_=>[])
  |.rows _ _ _ v _=>(match bH h (pi L id)with
   |some (.rows _ _ _ v' _)=>OA (OB GM 4) v v'
   |_=>[])
  |.lp _ bI _ _=>(match bH h (pi L id)with
   |some (.lp _ env' _ _)=>OA (OB GM 4) (GL bI) (GL env')
   |_=>[])
  |.fm _ _ w _ _ kO _=>(match bH h (pi L id)with
   |some (.fm _ _ w' _ _ MV _)=>(w,w')::OA (OB GM 4) kO MV
   |_=>bif d then [(w,GM+w)]else [])
  |_=>[])++Rh GM d L h r
def Md(bR:Nat)(E2:dK S)(S2:dP S)(bI:dK S)(s:dP S):List (Nat×Nat):=
 match Es bR (prE s.bT bI E2)with
 |l0=>match l0++Es bR (Rh s.bT false l0 s.heap S2.heap)with
  |l1=>l1++Es bR (Rh s.bT true l1 s.heap S2.heap)
def lJ:List Nat->dK S->dK S
 | [],_=>[]
 |t::r,bI=>match bH bI t with
  |some x=>(t,x)::lJ r bI
  |none=>lJ r bI
def kU:List Nat->List (Nat×TB S)->List (Nat×TB S)
 | [],_=>[]
 |i::r,h=>match bH h i with
  |some b=>(i,b)::kU r h
  |none=>kU r h
def yOf:TO S->Option Code
 |.ro _ y=>y
 |.po _ _ _ y=>y
 |.rd _ _ y=>y
 |.pl _ _ _ _ _ _ _ _ y=>y
 |.ph _ _ _ _ _ y=>y
 |_=>none
end
def PR(ρ:Option Nat)(n:Nat):Bool:=match ρ with
 |none=>true
 |some id=>Nat.blt id n
theorem PS{ρ:Option Nat}{n:Nat}(h:PR ρ n=true): ∀id,ρ=some id->id<n:=λid e=>by
 subst e
 simpa[PR,rO]using h
def Aw(B:jc)(ρ:Option Nat)(bR:Nat)(E2:dK B.S)(S2:dP B.S)(M:TM B.S):iT:=match(bif PR ρ bR then Mc B bR (Md bR E2 S2 M.bI M.s) E2 S2 M.bI M.s else none)with
 |some q=>q
 |none=>[(.any,.iE)]
theorem xx{B:jc}{ρ:Option Nat}{bR:Nat}{E2:dK B.S}{S2:dP B.S}{M:TM B.S}(hq: ∀p∈Aw B ρ bR E2 S2 M,p.1=p.2):(∀id,ρ=some id->id<bR)/\ ∃π,JL bR π (eJ B E2) (dl B S2) (eJ B M.bI) (dl B M.s):=by
 unfold Aw at hq
 cases hb:PR ρ bR with
 |false=>
  rw[hb]at hq
  have:=hq (.any,.iE) (by simp);cases this
 |true=>
  rw[hb]at hq
  simp only[cS]at hq
  refine⟨PS hb,?_⟩
  split at hq
  ·rename_i q h;exact⟨_,Cs h hq⟩
  ·have:=hq (.any,.iE) (by simp);cases this
section
variable {B:jc} {P:Program} {N:Nat} {ρ:Option Nat} {Q:Exit->Env->St->Prop} {M:TM B.S} {α β:Type} {r:β}
def Yi(B:jc)(P:Program)(N:Nat)(M:TM B.S)(run:Bool)(n:Nat)(db ids:List Nat)(bT:Nat)(U:dK B.S×List (Nat×TB B.S)):TM B.S:=
 ⟨bif run then CD (yOf (G B P N M).1.o)else .out .normal,(G B P N M).1.k.drop n,U.1++lJ db (G B P N M).1.bI,⟨U.2++kU ids (G B P N M).1.s.heap,bT⟩⟩
theorem tJ{J:Type}{o:Option J}{K:J->Option β}(h:o.bind K=some r)(run:Bool)(n:Nat)(db ids:List Nat)(bT:Nat)(U:J->dK B.S×List (Nat×TB B.S))
  (h1: ∀a,o=some a->(∀j,a=j->RT B P N ρ Q (Yi B P N M run n db ids bT (U j)))->RT B P N ρ Q M) (h2: ∀j,K j=some r->RT B P N ρ Q (Yi B P N M run n db ids bT (U j))):RT B P N ρ Q M:=
 let⟨a,ha,hK⟩:=mK h
 h1 a ha λj e=>h2 j (e ▸ hK)
theorem jq{J:Type}{o:Option (J⊕β)}{K:J->Option β}(h:o.bind (Sum.elim K some)=some r)(run:Bool)(n:Nat)(db ids:List Nat)(bT:Nat)(U:J->dK B.S×List (Nat×TB B.S))
  (h1: ∀a,o=some a->(∀j,a=.inl j->RT B P N ρ Q (Yi B P N M run n db ids bT (U j)))->Sum.elim K some a=some r->RT B P N ρ Q M) (h2: ∀j,K j=some r->RT B P N ρ Q (Yi B P N M run n db ids bT (U j))):RT B P N ρ Q M:=
 let⟨a,ha,hK⟩:=mK h
 h1 a ha (λj e=>h2 j (by subst e;exact hK)) hK
theorem sj{γ:Type}{a b:γ}(h:some a=some b):b=a:=(Option.some.inj h).symm
theorem sE{J:Type}{x:β}{a:J⊕β}{K:J->Option β}(h:some (Sum.inr x)=some a)(h2:Sum.elim K some a=some r):some x=some r:=by cases h;exact h2
def toRun(B:jc)(P:Program)(N:Nat)(T M:TM B.S):TM B.S×iT:=SX B P N (Rc (yV T.o) T.k.length) FT M
theorem Iu{o:TO B.S}{k:List Fr}{bI E2:dK B.S}{s S2:dP B.S}(ho:ko o=true){π:Nat->Nat}{bR:Nat}(Gd: ∀id,ρ=some id->id<bR)(hb:s.bT<=bR)(hI:JL bR π (eJ B E2) (dl B S2) (eJ B bI) (dl B s))(h:kD B P N ρ Q ⟨o,k,E2,S2⟩):kD B P N ρ Q ⟨o,k,bI,s⟩:=by
 cases o<;>simp only[ko]at ho<;>first|(cases ho;done)|skip
 ·have h:wW P N ρ Q ⟨.run _,k,eJ B E2,dl B S2⟩:=h
  exact sR (bR:=bR) hb (uy Gd hI) h
 ·have h:wW P N ρ Q ⟨.out _,k,eJ B E2,dl B S2⟩:=h
  exact sR (bR:=bR) hb (uy Gd hI) h
theorem tM{T:TM B.S}(kj:RT B P N ρ Q T)(hx:(ko T.o,(toRun B P N T M).1.o,(toRun B P N T M).1.k,(toRun B P N T M).2.map Prod.fst,(Aw B ρ (toRun B P N T M).1.s.bT T.bI T.s (toRun B P N T M).1).map Prod.fst)=
  (true,T.o,T.k,(toRun B P N T M).2.map Prod.snd,(Aw B ρ (toRun B P N T M).1.s.bT T.bI T.s (toRun B P N T M).1).map Prod.snd):=by kernel_rfl):RT B P N ρ Q M:=by
 simp only[Prod.mk.injEq]at hx
 obtain⟨h0,h1,h2,h3,h4⟩:=hx
 refine⟨kE (dZ h3) ?_⟩
 obtain⟨Gd,L,hI⟩:=xx (dZ h4)
 have e:(toRun B P N T M).1=⟨T.o,T.k,(toRun B P N T M).1.bI,(toRun B P N T M).1.s⟩:=by rw[<-h1,<-h2]
 show kD B P N ρ Q (toRun B P N T M).1
 rw[e]
 exact Iu h0 Gd (eF _) hI kj.v
def Tb{S:Nat->Type}:TO S->Code
 |.run (.loop x)=>x
 |_=>.skip
def Iv{S:Nat->Type}:TO S->Bool
 |.run (.loop _)=>true
 |_=>false
section
variable {σ τ:Type}
def Tc(B:jc)(P:Program)(N:Nat)(M:TM B.S)(db:List Nat)(U:σ->dK B.S×List (Nat×TB B.S))(st:σ):dK B.S:=(U st).1++lJ db (G B P N M).1.bI
def Td(B:jc)(P:Program)(N:Nat)(M:TM B.S)(ids:List Nat)(bT:Nat)(U:σ->dK B.S×List (Nat×TB B.S))(st:σ):dP B.S:=⟨(U st).2++kU ids (G B P N M).1.s.heap,bT⟩
def loF(B:jc)(P:Program)(N:Nat)(ρ:Option Nat)(M:TM B.S)(db ids:List Nat)(bT:Nat)(U:σ->dK B.S×List (Nat×TB B.S))(out:σ⊕τ):Fr:=
 .lp (Nx N ρ (G B P N M).1.s.bT (λst=>eJ B (Tc B P N M db U st)) (λst=>dl B (Td B P N M ids bT U st)) out) (∃r,out=.inr r)
structure LT (B:jc) (P:Program) (N:Nat) (M:TM B.S) (db ids:List Nat) (bT:Nat) (U:σ->dK B.S×List (Nat×TB B.S)) (out:σ⊕τ):Prop where
 t:True
theorem tL{body:σ->Option (σ⊕τ)}{n:Nat}{KG:σ}{KK:τ}(hl:bZ body n KG=some KK)(db ids:List Nat)(bT:Nat)(U:σ->dK B.S×List (Nat×TB B.S))
  (round: ∀st out,body st=some out->(∀r,out=.inr r->r=KK)->LT B P N M db ids bT U out->RT B P N ρ Q ⟨.run (Tb (G B P N M).1.o),loF B P N ρ M db ids bT U out::(G B P N M).1.k,Tc B P N M db U st,Td B P N M ids bT U st⟩)
  (hx:(Iv (G B P N M).1.o,(G B P N M).2.map Prod.fst,(Aw B ρ (G B P N M).1.s.bT (Tc B P N M db U KG) (Td B P N M ids bT U KG) (G B P N M).1).map Prod.fst)=
   (true,(G B P N M).2.map Prod.snd,(Aw B ρ (G B P N M).1.s.bT (Tc B P N M db U KG) (Td B P N M ids bT U KG) (G B P N M).1).map Prod.snd):=by kernel_rfl):RT B P N ρ Q M:=by
 simp only[Prod.mk.injEq]at hx
 obtain⟨h0,h1,h2⟩:=hx
 refine rT h1 ⟨?_⟩
 obtain⟨Gd,L,hI⟩:=xx (dZ h2)
 have rd:=λst out h1 h2=>(round st out h1 h2 ⟨trivial⟩).v
 clear round
 unfold loF at rd
 generalize Tc B P N M db U=E at *
 generalize Td B P N M ids bT U=Z at *
 clear h1 h2
 generalize(G B P N M).1=g at *
 obtain⟨o,k,bI,s⟩:=g
 simp only at *
 cases o<;>simp only[Iv]at h0<;>first|(cases h0;done)|skip
 rename_i c
 cases c<;>simp only at h0<;>first|(cases h0;done)|skip
 rename_i x
 exact PI (s:=dl B s) body hl (λst=>eJ B (E st)) (λst=>dl B (Z st)) (uy Gd hI) λst out hb hr=>rd st out hb hr
theorem tN{M':TM B.S}{db ids:List Nat}{bT:Nat}{U:σ->dK B.S×List (Nat×TB B.S)}{out:σ⊕τ}{st:σ}(K:LT B P N M' db ids bT U out)(h:some (.inl st)=some out)
  (hx:((G B P N M).1.o,(G B P N M).1.k,(G B P N M).2.map Prod.fst,(Aw B ρ (G B P N M').1.s.bT (Tc B P N M' db U st) (Td B P N M' ids bT U st) (G B P N M).1).map Prod.fst)=
   (.out .normal,loF B P N ρ M' db ids bT U out::(G B P N M').1.k,(G B P N M).2.map Prod.snd,(Aw B ρ (G B P N M').1.s.bT (Tc B P N M' db U st) (Td B P N M' ids bT U st) (G B P N M).1).map Prod.snd):=by kernel_rfl):RT B P N ρ Q M:=by
 simp only[Prod.mk.injEq]at hx
 obtain⟨h0,h1,h2,h3⟩:=hx
 refine rT h2 ⟨?_⟩
 obtain⟨Gd,L,hI⟩:=xx (dZ h3)
 generalize(G B P N M).1=g at *
 obtain⟨o,k,bI,s⟩:=g
 simp only at *
 subst h0;subst h1
 exact PH (sj h) (uy Gd hI)
def lpA{S:Nat->Type}(M:TM S):Option Prop:=match M.o with
 |.out e=>(match M.k with
  |.lp _ ok::_=>(match e with
   |.normal=>none
   |_=>some ok)
  |_=>none)
 |_=>none
def aaf{S:Nat->Type}(M:TM S):TM S:=⟨M.o,M.k.tail,M.bI,M.s⟩
theorem tO{out:σ⊕τ}{t:τ}(h:some (.inr t)=some out)(k:RT B P N ρ Q (aaf (G B P N M).1))(hx:(lpA (G B P N M).1,(G B P N M).2.map Prod.fst)=(some (∃r,out=.inr r),(G B P N M).2.map Prod.snd):=by kernel_rfl):RT B P N ρ Q M:=by
 simp only[Prod.mk.injEq]at hx
 obtain⟨h0,h1⟩:=hx
 refine rT h1 ⟨?_⟩
 have k:=k.v
 generalize(G B P N M).1=g at *
 obtain⟨o,fr,bI,s⟩:=g
 unfold lpA at h0
 split at h0
 ·rename_i e ho
  simp only at ho;subst ho
  split at h0
  ·rename_i nx ok k' hk
   simp only at hk;subst hk
   split at h0
   ·cases h0
   ·rename_i eV
    have e1:=Option.some.inj h0
    have ho:ok:=by rw[e1];exact⟨t,sj h⟩
    have k:wW P N ρ Q ⟨.out e,k',eJ B bI,dl B s⟩:=k
    show wW P N ρ Q ⟨.out e,.lp nx ok::k',eJ B bI,dl B s⟩
    intro G w a hn
    refine ia.of (k G w a hn) λbI s hq=>?_
    cases e with
    |normal=>exact absurd rfl eV
    |exit _=>exact⟨ho,hq⟩
    |goto _=>exact⟨ho,hq⟩
    |ret=>exact⟨ho,hq⟩
    |panic _=>exact⟨ho,hq⟩
    |outgrown=>exact⟨ho,hq⟩
  ·cases h0
 ·cases h0
theorem oJ{out:σ⊕τ}{t KK:τ}(h:some (.inr t)=some out)(e: ∀r,out=.inr r->r=KK):KK=t:=(e _ (sj h)).symm
theorem oE{J β:Type}{r x:β}{out:σ⊕(J⊕β)}{KK:J⊕β}{K:J->Option β}(h:some (.inr (.inr x))=some out)(e: ∀r,out=.inr r->r=KK)(h2:Sum.elim K some KK=some r):some x=some r:=by have:=oJ h e;subst this;exact h2
end
def Et(P:Program)(f:FuncId):Option (Nat×List ResultVar×Code):=(P.funcs[f]?).bind λfn=>fn.body.map λb=>(fn.ntmps,fn.results.toList,b)
def nF(P:Program)(f:FuncId):Nat:=match Et P f with
 |some (n,_,_)=>n
 |none=>0
def rF(P:Program)(f:FuncId):List ResultVar:=match Et P f with
 |some (_,r,_)=>r
 |none=>[]
def cF(P:Program)(f:FuncId):Code:=match Et P f with
 |some (_,_,c)=>c
 |none=>.skip
def J6{S:Nat->Type}:List (TV S)->Nat->dK S
 | [],_=>[]
 |x::r,k=>(k,x)::J6 r (k+1)
theorem Iw{l:List (TV B.S)}{k:Nat}:eJ B (J6 l k)=nw (dY B.E l) k:=by
 induction l generalizing k with
 |nil=>simp[J6,eJ,dY,nw]
 |cons x r ih=>simp only[J6,eJ,dY,nw,ih]
def Te:AV->AV
 |.sl _ l=>.sl false l
 |x=>x
def Tf:AV->AV
 |.agg l=>.agg (l.map Te)
 |x=>Te x
def dW:AV->AV
 |.ec l=>.ec (l.map Tf)
 |x=>Tf x
theorem M1{G:cg}{x:AV}{v:Value}(h:V G x v):V G (Te x) v:=by
 cases x<;>first|exact h|skip
 rename_i f l
 cases h with
 |slnil _ bR cap hf hb=>exact .slnil false bR cap (λe=>by cases e) hb
 |sl _ _ b off cB cap val jY jS ee jz gS hV=>exact .sl false l b off cB cap val jY (λe=>by cases e) ee jz gS hV
theorem M3{G:cg}{x:AV}{v:Value}(h:V G x v):V G (Tf x) v:=by
 cases x<;>first|exact M1 h|skip
 cases h with
 |agg cs vs dA h=>exact .agg _ vs (by rw[mB];exact dA) λi x y hx hy=>(by
  rw[tx]at hx
  obtain⟨z,hz,rfl⟩:=Hy.1 hx
  exact M1 (h i z y hz hy))
theorem Wq{G:cg}{x:AV}{v:Value}(h:V G x v):V G (dW x) v:=by
 cases x<;>first|exact M3 h|skip
 cases h with
 |ec cs vs dA h=>exact .ec _ vs (by rw[mB];exact dA) λi x y hx hy=>(by
  rw[tx]at hx
  obtain⟨z,hz,rfl⟩:=Hy.1 hx
  exact M3 (h i z y hz hy))
theorem J7{f:FuncId}{args:List AV}{x:AV}(ha:eQ args=true)(hx:x.dy=true)(h:dQ P f args St.nil λy s=>dW (Go.Am.OZ y s).1=x):nR P f args x:=
 Vy ha hx (dQ.turn (h.mono λy s hq=>⟨_,_,λG w v hs hv=>by
  obtain⟨G',h1,h2,h3⟩:=DO s y G w v hs hv
  exact⟨G',h1,h2,Wq h3⟩,hq⟩))
def KX(B:jc)(X:α->TV B.S)(a:α):AV->St->Prop:=λy s=>dW (OZ y s).1=(X a).er B.E
theorem tf{f:FuncId}{args:List (TV B.S)}{X:α->TV B.S}{a:α}(h:RT B P (nF P f) none (JB P (rF P f).toArray (KX B X a)) ⟨.run (cF P f),[],J6 args 0,⟨[],0⟩⟩)
  (hx:((Et P f).isSome&&Nat.ble args.length (nF P f)&&Ep args&&(X a).cl)=true:=by kernel_rfl):cY B P f args X a:=by
 simp only[fi]at hx
 obtain⟨⟨⟨h1,h2⟩,h3⟩,h4⟩:=hx
 refine J7 (nD h3) (Bu h4) ?_
 have h:=h.v
 obtain⟨⟨n,rs,c⟩,hb⟩:=AM.1 h1
 have e1:nF P f=n:=by simp[nF,hb]
 have e2:rF P f=rs:=by simp[rF,hb]
 have e3:cF P f=c:=by simp[cF,hb]
 rw[e1,e2,e3]at h
 rw[e1]at h2
 refine QW (s:=St.nil) n rs c _ hb Iw.symm (by rw[gN];exact h2) rfl h
def M4(B:jc)(P:Program)(bI:dK B.S)(s:dP B.S):List ResultVar->Option (List (TV B.S))
 | []=>some []
 |r::l=>match(match r with
  |.tmp t=>bH bI t
  |.cell t ty=>match bH bI t with
   |some p=>(match Ia B P ty p s with
    |.ok v _=>some v
    |_=>none)
   |none=>none)with
  |some x=>match M4 B P bI s l with
   |some xs=>some (x::xs)
   |none=>none
  |none=>none
def wx{S:Nat->Type}(x:TV S)(s:dP S):TV S×dP S×iT:=match x with
 |.a (.ms id st n)=>(match bH s.heap id with
  |some (.ls _ c xs m _)=>bif Nat.beq st 0&&iu s.heap id then(.l false c xs,⟨eB s.heap id,s.bT⟩,[(.mp 0 0 n,.mp 0 0 m)])else(x,s,[])
  |some (.cH _ l)=>bif Nat.beq st 0&&iu s.heap id then(.s false l,⟨eB s.heap id,s.bT⟩,[(.mp 0 0 n,.mp 0 0 l.length)])else(x,s,[])
  |_=>(x,s,[]))
 |x=>(x,s,[])
def wy{S:Nat->Type}(f:TV S->dP S->TV S×dP S×iT):List (TV S)->dP S->List (TV S)×dP S×iT
 | [],s=>([],s,[])
 |x::r,s=>match f x s with
  |(y,s1,q)=>match wy f r s1 with
   |(l,s2,q2)=>(y::l,s2,q++q2)
def uA{S:Nat->Type}(x:TV S)(s:dP S):TV S×dP S×iT:=match x with
 |.agg l=>(match wy wx l s with
  |(l,s,q)=>(.agg l,s,q))
 |x=>wx x s
def Eu{S:Nat->Type}(x:TV S)(s:dP S):TV S×dP S×iT:=match x with
 |.ec l=>(match wy uA l s with
  |(l,s,q)=>(.ec l,s,q))
 |x=>uA x s
def PT(B:jc)(f:TV B.S->dP B.S->TV B.S×dP B.S×iT)(g:AV->St->AV×St):Prop:= ∀x s,(f x s).1.cl=true->(∀p∈(f x s).2.2,p.1=p.2)->g (x.er B.E) (dl B s)=((f x s).1.er B.E,dl B (f x s).2.1)
theorem CL{x:AV}{s:St}(h:x.dy=true):vn x s=(x,s):=by
 cases x<;>first|rfl|cases h
theorem Ev:PT B wx vn:=by
 intro x s hc hq
 unfold wx at hc hq |-
 split at hc
 ·rename_i id st n
  split at hc
  ·rename_i cB c xs m hm hg
   cases hb:Nat.beq st 0&&iu s.heap id with
   |false=>simp[hb,TV.cl,AV.dy]at hc
   |true=>
    simp only[hg,hb,cS]at hq |-
    simp only[fi]at hb
    have e:=jh hb.1
    subst e
    have:=hq _ (by simp:((AV.mp 0 0 n),(AV.mp 0 0 m))∈_)
    simp only[AV.mp.injEq]at this
    have hn:=this.2.2
    subst hn;subst hm
    simp only[TV.er,vn,dp hg,fx]
    rw[dD (by simp)]
    simp[mn hb.2,sG];rfl
  ·rename_i cB l hg
   cases hb:Nat.beq st 0&&iu s.heap id with
   |false=>simp[hb,TV.cl,AV.dy]at hc
   |true=>
    simp only[hg,hb,cS]at hq |-
    simp only[fi]at hb
    have e:=jh hb.1
    subst e
    have:=hq _ (by simp:((AV.mp 0 0 n),(AV.mp 0 0 l.length))∈_)
    simp only[AV.mp.injEq]at this
    have hn:=this.2.2
    subst hn
    simp only[TV.er,vn,dp hg,fx]
    rw[dD (by simp[gN])]
    simp[mn hb.2,sG,gN];rfl
  ·simp[TV.cl,AV.dy]at hc
 ·rename_i x _
  simp only at hc |-
  exact CL (Bu hc)
theorem yZ{f:TV B.S->dP B.S->TV B.S×dP B.S×iT}{g:AV->St->AV×St}(h:PT B f g): ∀(l:List (TV B.S))(s:dP B.S),Ep (wy f l s).1=true->(∀p∈(wy f l s).2.2,p.1=p.2)->mX g (dY B.E l) (dl B s)=(dY B.E (wy f l s).1,dl B (wy f l s).2.1)
 | [],s,_,_=>rfl
 |x::r,s,hc,hq=>by
  simp only[wy]at hc hq |-
  simp only[Ep,fi]at hc
  have h1:=h x s hc.1 (λp hp=>hq p (Dn _ hp))
  have h2:=yZ h r _ hc.2 (λp hp=>hq p (FA _ hp))
  simp only[dY,mX,h1,h2]
theorem Ew:PT B uA tS:=by
 intro x s hc hq
 rcases Classical.em (∃l,x=.agg l)with⟨l,rfl⟩|hx
 ·have:=yZ Ev l s hc hq
  simp only[TV.er,tS,this,uA]
 ·have e:uA x s=wx x s:=by
    unfold uA
    split
    ·exact absurd ⟨_,rfl⟩ hx
    ·rfl
  rw[e]at hc hq |-
  have h0:=Ev x s hc hq
  have:tS (x.er B.E) (dl B s)=vn (x.er B.E) (dl B s)\/ ∃l,x.er B.E=.agg l:=by
    generalize x.er B.E=y
    cases y<;>first|exact .inl rfl|exact .inr ⟨_,rfl⟩
  rcases this with h|⟨l,hl⟩
  · rw[h];exact h0
  ·
    have Gr: ∀(l:List AV)(s:St),eQ l=true->mX vn l s=(l,s):=by
     intro l
     induction l with
     |nil=>intro s _;rfl
     |cons a r ih=>
      intro s hc
      simp only[eQ,fi]at hc
      simp only[mX,CL hc.1,ih s hc.2]
    have he:wx x s=(x,s,[]):=by
     unfold wx
     split
     ·rename_i id st n;simp[TV.er]at hl
     ·rfl
    rw[he]at hc |-
    have hc:=Bu hc
    rw[hl]at hc |-
    simp only[tS,Gr l _ hc]
theorem Ix:PT B Eu OZ:=by
 intro x s hc hq
 rcases Classical.em (∃l,x=.ec l)with⟨l,rfl⟩|hx
 ·have:=yZ Ew l s hc hq
  simp only[TV.er,OZ,this,Eu]
 ·have e:Eu x s=uA x s:=by
   unfold Eu
   split
   ·exact absurd ⟨_,rfl⟩ hx
   ·rfl
  rw[e]at hc hq |-
  have h0:=Ew x s hc hq
  have:OZ (x.er B.E) (dl B s)=tS (x.er B.E) (dl B s)\/ ∃l,x.er B.E=.ec l:=by
   generalize x.er B.E=y
   cases y<;>first|exact .inl rfl|exact .inr ⟨_,rfl⟩
  rcases this with h|⟨l,hl⟩
  ·rw[h];exact h0
  ·have aag: ∀(x:AV)(s:St),x.dy=true->tS x s=(x,s):=by
    intro x s hc
    cases x<;>first|rfl|(cases hc;done)|skip
    rename_i l
    have: ∀(l:List AV)(s:St),eQ l=true->mX vn l s=(l,s):=by
     intro l
     induction l with
     |nil=>intro s _;rfl
     |cons a r ih=>
      intro s hc
      simp only[eQ,fi]at hc
      simp only[mX,CL hc.1,ih s hc.2]
    simp only[tS,this l s hc]
   have Gr: ∀(l:List AV)(s:St),eQ l=true->mX tS l s=(l,s):=by
    intro l
    induction l with
    |nil=>intro s _;rfl
    |cons a r ih=>
     intro s hc
     simp only[eQ,fi]at hc
     simp only[mX,aag a s hc.1,ih s hc.2]
   have he:uA x s=(x,s,[]):=by
    unfold uA
    split
    ·simp[TV.er]at hl
    ·unfold wx
     split
     ·simp[TV.er]at hl
     ·rfl
   rw[he]at hc |-
   have hc:=Bu hc
   rw[hl]at hc |-
   simp only[OZ,Gr l _ hc]
theorem CM{bI:dK B.S}{s:dP B.S}: ∀{rs:List ResultVar}{l:List (TV B.S)},M4 B P bI s rs=some l->wa P (eJ B bI) (dl B s) rs=some (dY B.E l)
 | [],l,h=>by cases h;rfl
 |r::rs,l,h=>by
  unfold M4 at h
  split at h
  ·rename_i x hx
   split at h
   ·rename_i xs ZC
    cases h
    have h1:Ly P (eJ B bI) (dl B s) r=some (x.er B.E):=by
     split at hx
     ·simp only[Ly,lB,hx,gy]
     ·rename_i t ty
      split at hx
      ·rename_i p hp
       split at hx
       ·rename_i v s' hv
        cases hx
        obtain⟨v',e,e1,e2⟩:=Eg (B:=B) (P:=P) (s:=s) (t:=ty) (p:=p) (λa b=>a=x/\b=s') (by rw[hv];exact⟨rfl,rfl⟩)
        subst e1
        simp only[Ly,lB,hp,gy,e]
       ·cases hx
      ·cases hx
    simp only[wa,h1,CM ZC,dY]
   ·cases h
  ·cases h
def OC{S:Nat->Type}:List (Nat×TB S)->List (Nat×TB S)
 | []=>[]
 |(i,b)::r=>match b with
  |.raw .gr=>eB (OC r) i
  |b=>(i,b)::OC r
def Ex{S:Nat->Type}(s:dP S):dP S:=⟨OC s.heap,s.bT⟩
theorem CN: ∀{h:List (Nat×TB B.S)}{id:Nat}{b:TB B.S},bH (OC h) id=some b->bH h id=some b
 | [],id,b,h=>h
 |(i,c)::r,id,b,h=>by
  unfold OC at h
  split at h
  ·rw[fH]at h
   split at h
   ·cases h
   ·rename_i eV
    simp only[cM]
    rw[dM eV]
    exact CN h
  ·simp only[cM]at h |-
   split at h
   ·rename_i e;rw[dD e];exact h
   ·rename_i e;rw[dM e];exact CN h
theorem CO{β:Type}{p:Nat×β}{i:Nat}: ∀{l:List (Nat×β)},p∈eB l i->p∈l
 | [],h=>h
 |(k,x)::r,h=>by
  simp only[eB]at h
  split at h
  ·exact Jh _ (CO h)
  ·simp only[mU]at h |-
   rcases h with h|h
   ·exact .inl h
   ·exact .inr (CO h)
theorem GN{p:Nat×TB B.S}: ∀{l:List (Nat×TB B.S)},p∈OC l->p∈l
 | [],h=>h
 |(k,x)::r,h=>by
  unfold OC at h
  split at h
  ·exact Jh _ (GN (CO h))
  ·simp only[mU]at h |-
   rcases h with h|h
   ·exact .inl h
   ·exact .inr (GN h)
theorem Ey{i:Nat}: ∀{h:List (Nat×TB B.S)},(∀p∈h,fR p.2=true->fL p.1 i=true/\p.1≠i)->iu h i=true
 | [],_=>rfl
 |(k,x)::r,h=>by
  have ih:=Ey (i:=i) (h:=r) λp hp=>h p (by simp[hp])
  have h0:=h (k,x) (by simp)
  cases x with
  |fr c cl pre n post=>
   obtain⟨h1,h2⟩:=h0 rfl
   simp only[iu,h1,ih,Bool.and_true,Uh,p9]
   cases hq:Nat.beq k i with
   |false=>rfl
   |true=>exact absurd (jh hq) h2
  |_=>exact ih
theorem Ri: ∀{h:List (Nat×TB B.S)},pN h=true->mi B (OC h)=mi B h
 | [],_=>rfl
 |(k,x)::r,hw=>by
  simp only[pN,fi]at hw
  have ih:=Ri hw.2
  unfold OC
  split
  ·have hd:iu (OC r) k=true:=Ey λp hp hf=>by
    have:=pT.1 hw.1 p (GN hp)
    simp only[lW,hf,cS,fi,p9]at this
    exact⟨this.2.1,λe=>Aq this.2.2 e.symm⟩
   rw[(Ih hd).1,ih];rfl
  ·simp only[mi,ih]
def J8(B:jc)(h:List (Nat×TB B.S)):Bool:=h.all λp=>!(tU (fx B p.2))
theorem xy{a b:List (Nat×gD)}:nb (a++b)=(nb a&&nb b):=by
 induction a with
 |nil=>rfl
 |cons p r ih=>obtain⟨k,x⟩:=p;simp only[wI,nb,ih,Bool.and_assoc]
theorem Wr{l:List (ZB B.S)}: ∀{i:Nat},nb (jO B i l)=true:=by
 induction l with
 |nil=>intro i;rfl
 |cons z r ih=>intro i;simp only[jO,nb,ih,L2,tU];rfl
theorem Rj{c w:Nat}{l:List (B.S c)}: ∀{i:Nat},nb (gx B c w i l)=true:=by
 induction l with
 |nil=>intro i;rfl
 |cons y r ih=>
  intro i
  unfold gx
  cases Nat.blt i cT
  ·rfl
  ·simp only[cS,xy,Wr,ih];rfl
theorem xj{h:List (Nat×TB B.S)}{n:Nat}(hd:J8 B h=true):nb (dl B ⟨h,n⟩).heap=true:=by
 simp only[dl,xy,fi]
 constructor
 ·induction h with
  |nil=>rfl
  |cons p r ih=>
   obtain⟨k,x⟩:=p
   simp only[J8,Xt,fi]at hd
   simp only[kC,nb,hd.1,ih (by simpa[J8]using hd.2)];rfl
 ·clear hd
  induction h with
  |nil=>rfl
  |cons p r ih=>
   obtain⟨k,x⟩:=p
   simp only[mi,xy,ih,Bool.and_true]
   unfold eR
   split
   ·rename_i c cl pre m post
    cases cl
    ·simp only[dj,xy,Rj];rfl
    ·simp only[cS,rN,Rj]
   ·rfl
def Bw(B:jc)(s:dP B.S):Bool:=pN s.heap&&J8 B (Ex s).heap
theorem Ez{s:dP B.S}(h:Bw B s=true):F5 (dl B (Ex s)) (dl B s):=by
 simp only[Bw,fi]at h
 obtain⟨hw,hd⟩:=h
 refine⟨λid b hg=>⟨?_,λe=>nV (xj (n:=s.bT) hd) id (by rw[<-e];exact hg)⟩,eF _⟩
 simp only[dl,Ex,Ri hw]at hg |-
 rw[cZ]at hg |-
 split at hg
 ·rename_i x hx
  cases hg
  rw[fX]at hx
  obtain⟨c,hc,e⟩:=Hy.1 hx
  rw[fX,CN hc,<-e];rfl
 ·obtain⟨w,b',h1,h2⟩:=yr hw hg
  rw[(HU hw h1 h2).1];exact hg
def M5(B:jc)(P:Program)(rs:List ResultVar)(M:TM B.S):Option (AV×iT):=match M.o with
 |.out e=>(match M.k with
  | []=>bif (match e with|.ret=>true|.normal=>true|_=>false)&&Bw B M.s then(match M4 B P M.bI M.s rs with
   |some l=>(match Eu (match l with| [x]=>x|l=>.ec l) (Ex M.s)with
    |(v,_,q)=>bif v.cl then some (dW (v.er B.E),q)else none)
   |none=>none)else none
  |_=>none)
 |_=>none
def aah(o:Option (AV×iT)):Option AV:=o.map (·.1)
def Ws(o:Option (AV×iT)):iT:=match o with
 |some (_,q)=>q
 |none=>[]
theorem cC{rs:List ResultVar}{X:α->TV B.S}{x a:α}(h:some x=some a)(hx:(aah (M5 B P rs (G B P N M).1),(Ws (M5 B P rs (G B P N M).1)).map Prod.fst,(G B P N M).2.map Prod.fst)=
   (some ((X x).er B.E),(Ws (M5 B P rs (G B P N M).1)).map Prod.snd,(G B P N M).2.map Prod.snd):=by kernel_rfl):RT B P N none (JB P rs.toArray (KX B X a)) M:=by
 cases h
 simp only[Prod.mk.injEq]at hx
 obtain⟨h1,h2,h3⟩:=hx
 refine rT h3 ⟨?_⟩
 have h2:=dZ h2
 generalize(G B P N M).1=g at *
 obtain⟨o,k,bI,s⟩:=g
 cases hr:M5 B P rs ⟨o,k,bI,s⟩with
 |none=>rw[hr]at h1;cases h1
 |some p=>
  obtain⟨v,q⟩:=p
  rw[hr]at h1 h2
  have Of:v=(X x).er B.E:=Option.some.inj h1
  have Je: ∀p∈q,p.1=p.2:=h2
  clear h1 h2
  unfold M5 at hr
  split at hr
  ·rename_i e ho
   simp only at ho;subst ho
   split at hr
   ·rename_i hk
    simp only at hk;subst hk
    generalize hq0:(match e with|.ret=>true|.normal=>true|_=>false)=b0 at hr
    cases hq:(b0&&Bw B s)with
    |false=>simp only[hq,dj]at hr;cases hr
    |true=>
     simp only[hq,cS]at hr
     simp only[fi]at hq
     have he:e=.ret\/e=.normal:=by
      rw[hq.1]at hq0
      cases e<;>simp_all
     split at hr
     ·rename_i l hl
      have hl:=CM hl
      generalize hy:(match l with| [x]=>x|l=>TV.ec l)=y at hr
      have FP:lE P rs.toArray (eJ B bI) (dl B s)=some (y.er B.E):=by
       unfold lE
       simp only[hl]
       subst hy
       cases l with
       |nil=>rfl
       |cons x r=>cases r<;>rfl
      cases hc:(Eu y (Ex s)).1.cl with
      |false=>simp only[hc,dj]at hr;cases hr
      |true=>
       simp only[hc,cS]at hr
       cases hr
       have hf:=Ix (B:=B) y (Ex s) hc Je
       have EA:F5 (dl B (Ex s)) (dl B s):=Ez hq.2
       have hK:KX B X x (y.er B.E) (dl B (Ex s)):=by
        unfold KX;rw[hf];exact Of
       rcases he with rfl|rfl
       ·exactλG w a hn=>hn.after ⟨_,_,FP,EA,hK⟩
       ·exactλG w a hn=>hn.after ⟨_,_,FP,EA,hK⟩
     ·cases hr
   ·cases hr
  ·cases hr
end
end Go.Am
