/- The logic AM, Y: walks on typed states: functions, ways that meet, loops. -/
import Derived.Test.YtgpciecmgoppiaaGreatAmF
set_option linter.all false
namespace Go.Am
open Go.RowKit
abbrev iV:=List (AV×AV)
def se(a b:Option iV):Option iV:=match a with
 |some x=>match b with
  |some y=>some (x++y)
  |none=>none
 |none=>none
theorem gp{a b:Option iV}{q:iV}(h:se a b=some q)(hq: ∀p∈q,p.1=p.2):(∃x,a=some x/\ ∀p∈x,p.1=p.2)/\ ∃y,b=some y/\ ∀p∈y,p.1=p.2:=by
 unfold se at h;split at h
 ·split at h
  ·cases h;exact⟨⟨_,rfl,λp hp=>hq p (Ig _ hp)⟩,_,rfl,λp hp=>hq p (Gh _ hp)⟩
  ·cases h
 ·cases h
section
variable {S:Nat->Type}
mutual
def TV.cl:TV S->Bool
 |.a x=>x.dn
 |.i _ _=>true
 |.b _=>true
 |.z _=>true
 |.v _ _=>true
 |.l _ _ _=>true
 |.s _ cs=>Dy cs
 |.agg cs=>Dy cs
 |.dS cs=>Dy cs
 |.ip cs=>Dy cs
 |.fn _ cs=>Dy cs
 |.pt _ _ _=>false
def Dy:List (TV S)->Bool
 | []=>true
 |x::r=>x.cl&&Dy r
end
end
section
variable {B:iU}
theorem lG(c:Nat)(x:List (B.S c)):eO (x.map (B.E c))=true:=ec.2 λy hy=>by
 obtain⟨z,_,rfl⟩:=mS.1 hy;exact B.hc c z
mutual
theorem za: ∀{x:TV B.S},x.cl=true->(x.er B.E).dn=true
 |.a x,h=>h
 |.i _ _,_=>rfl
 |.b _,_=>rfl
 |.z _,_=>rfl
 |.v c x,_=>B.hc c x
 |.l _ c x,_=>lG c x
 |.s _ cs,h=>nu (l:=cs) h
 |.agg cs,h=>nu (l:=cs) h
 |.dS cs,h=>nu (l:=cs) h
 |.ip cs,h=>nu (l:=cs) h
 |.fn _ cs,h=>nu (l:=cs) h
 |.pt _ _ _,h=>by cases h
theorem nu: ∀{l:List (TV B.S)},Dy l=true->eO (dY B.E l)=true
 | [],_=>rfl
 |x::r,h=>by
  simp only[Dy,eU]at h;simp only[dY,eO,eU];exact⟨za h.1,nu h.2⟩
end
end
section
variable (B:iU)
def Uv(x:TV B.S):Option (List AV):=match x.norm B with
 |.l _ c y=>some (y.map (B.E c))
 |.s _ cs=>some (dY B.E cs)
 |.a (.sl _ l)=>some l
 |_=>none
def coA(ok:Nat->Bool)(π:Nat->Nat)(x y:AV):Option iV:=match x with
 |.mp id e o=>(match y with
  |.mp fq e' o'=>bif ok id&&Nat.beq (π id) fq then some [(.mp 0 e o,.mp 0 e' o')]else none
  |_=>none)
 |.ms id a b=>(match y with
  |.ms fq a' b'=>bif ok id&&Nat.beq (π id) fq then some [(.mp 0 a b,.mp 0 a' b')]else none
  |.sl true []=>some [(.mp 0 0 b,.mp 0 0 0)]
  |_=>none)
 |.kK id=>(match y with
  |.kK fq=>bif ok id&&Nat.beq (π id) fq then some []else none
  |_=>none)
 |x=>bif x.dn then some [(x,y)]else none
def CO{S:Nat->Type}:TV S->Option (Nat×Nat×Nat)
 |.pt id a b=>some (id,a,b)
 |.a (.ms id a b)=>some (id,a,b)
 |_=>none
def sS{S:Nat->Type}:TV S->Bool
 |.a (.ms _ a _)=>Nat.beq a 0
 |_=>false
def NQ(b b':Nat)(x y:Option (TB B.S)):Option iV:=match x with
 |some (.ls _ c x n _)=>(match y with
  |some (.ls _ c' x' n' _)=>some [(.mp 0 0 b,.mp 0 0 n),(.mp 0 0 b',.mp 0 0 n'),(.sl false (x.map (B.E c)),.sl false (x'.map (B.E c')))]
  |some (.cu _ l)=>some [(.mp 0 0 b,.mp 0 0 n),(.mp 0 0 b',.mp 0 0 l.length),(.sl false (x.map (B.E c)),.sl false (dY B.E l))]
  |_=>none)
 |_=>none
abbrev PL(S:Nat->Type):=List (Nat×TB S)×List (Nat×TB S)
def Uw(hp:PL B.S)(ok:Nat->Bool)(π:Nat->Nat)(w:Bool)(id a b:Nat)(y:TV B.S):Option iV:=match CO y with
 |some (fq,a',b')=>bif ok id&&Nat.beq (π id) fq then(match(bif w&&sS y then NQ B b b' (bn hp.1 id) (bn hp.2 fq)else none)with
   |some q=>some q
   |none=>some [(.mp 0 a b,.mp 0 a' b')])else none
 |none=>match y with
  |.a (.sl true [])=>some [(.mp 0 0 b,.mp 0 0 0)]
  |_=>none
def LS{S:Nat->Type}(f:TV S->TV S->Option iV):List (TV S)->List (TV S)->Option iV
 | [],[]=>some []
 |x::r,y::l=>se (f x y) (LS f r l)
 |_,_=>none
def CP{S:Nat->Type}(cs:List (TV S)):Bool:=cs.any λx=>match x with
 |.a (.sl true [])=>true
 |_=>false
def aL(S:Nat->Type):List AV->List (TV S)
 | []=>[]
 |x::r=>.a x::aL S r
theorem NR: ∀{l:List AV},dY B.E (aL B.S l)=l
 | []=>rfl
 |x::r=>by simp only[aL,dY,TV.er,NR (l:=r)]
def Hn(hp:PL B.S)(ok:Nat->Bool)(π:Nat->Nat):Nat->TV B.S->TV B.S->Option iV
 |0,_,_=>none
 |n+1,x,y=>match CO x with
  |some (id,a,b)=>Uw B hp ok π (sS x) id a b y
  |none=>match x with
   |.a x=>(match y with
    |.a y=>coA ok π x y
    |y=>bif x.dn then some [(x,y.er B.E)]else none)
   |.l false c x=>(match Uv B y with
    |some l=>some [(.sl false (x.map (B.E c)),.sl false l)]
    |none=>none)
   |.fn g cs=>(match y with
    |.fn g' cs'=>bif Nat.beq g g' then LS (Hn hp ok π n) cs cs' else none
    |_=>none)
   |.dS cs=>(match y with
    |.dS cs'=>LS (Hn hp ok π n) cs cs'
    |_=>none)
   |.agg cs=>(match y with
    |.agg cs'=>LS (Hn hp ok π n) cs cs'
    |.a (.agg l)=>bif Dy cs then some [(.agg (dY B.E cs),.agg l)]else LS (Hn hp ok π n) cs (aL B.S l)
    |y=>bif Dy cs then some [(.agg (dY B.E cs),y.er B.E)]else none)
   |.v c x=>(match y with
    |.agg cs'=>bif CP cs' then Hn hp ok π n (B.X c x) (.agg cs')else some [(B.E c x,.agg (dY B.E cs'))]
    |.a (.agg l)=>bif CP (aL B.S l)then Hn hp ok π n (B.X c x) (.agg (aL B.S l))else some [(B.E c x,.agg l)]
    |y=>some [(B.E c x,y.er B.E)])
   |x=>bif x.cl then some [(x.er B.E,y.er B.E)]else none
def Q3(a b:Option (Option Nat)):Bool:=match a with
 |none=>(match b with
  |none=>true
  |_=>false)
 |some none=>(match b with
  |some none=>true
  |_=>false)
 |some (some i)=>(match b with
  |some (some j)=>Nat.beq i j
  |_=>false)
theorem Q4{a b:Option (Option Nat)}(h:Q3 a b=true):a=b:=by
 unfold Q3 at h
 grind [Nat.eq_of_beq_eq_true]
def NS{S:Nat->Type}:List (Nat×TV S)->List (Nat×TV S)->Bool
 | [],[]=>true
 |(i,_)::r,(j,_)::l=>Nat.beq i j&&NS r l
 |_,_=>false
def Ho{S:Nat->Type}:List (Nat×TV S)->List (TV S)
 | []=>[]
 |(_,x)::r=>x::Ho r
def KR{S:Nat->Type}:List (Nat×TV S)->List Nat
 | []=>[]
 |(i,_)::r=>i::KR r
theorem IY{S:Nat->Type}: ∀{a b:List (Nat×TV S)},NS a b=true->KR a=KR b
 | [],[],_=>rfl
 |(i,_)::r,(j,_)::l,h=>by
  simp only[NS,eU]at h;simp only[KR,jU h.1,IY h.2]
 | [],_::_,h=>by cases h
 |_::_,[],h=>by cases h
theorem IZ: ∀{bf:List (Nat×TV B.S)},eI B bf=lu (KR bf) (dY B.E (Ho bf))
 | []=>rfl
 |(i,x)::r=>by simp only[eI,KR,Ho,dY,lu,IZ (bf:=r)]
def zb(hp:PL B.S)(ok:Nat->Bool)(π:Nat->Nat)(b b':TB B.S):Option iV:=match b with
 |.cu n l=>(match b' with
  |.cu n' l'=>bif Nat.beq n n' then LS (Hn B hp ok π 4) l l' else none
  |.ls n' c x _ _=>bif Nat.beq n n'&&Dy l then some [(.sl false (dY B.E l),.sl false (x.map (B.E c)))]else none
  |_=>none)
 |.ls n c x _ _=>(match b' with
  |.cu n' l'=>bif Nat.beq n n' then some [(.sl false (x.map (B.E c)),.sl false (dY B.E l'))]else none
  |.ls n' c' x' _ _=>bif Nat.beq n n' then some [(.sl false (x.map (B.E c)),.sl false (x'.map (B.E c')))]else none
  |_=>none)
 |.raw b=>(match b with
  |.gq=>(match b' with
   |.raw .gq=>some []
   |_=>none)
  |_=>none)
 |.lp c bf st pd=>(match b' with
  |.lp c' env' Ao pd'=>bif Nat.beq c c'&&Nat.beq st Ao&&Q3 pd pd'&&NS bf env' then LS (Hn B hp ok π 4) (Ho bf) (Ho env')else none
  |_=>none)
 |.rows n c x v k=>(match b' with
  |.rows n' c' x' v' k'=>bif Nat.beq n n' then se (some [(.agg [.sl false (x.map (B.E c)),.mp k 0 0],.agg [.sl false (x'.map (B.E c')),.mp k' 0 0])]) (LS (Hn B hp ok π 4) v v')else none
  |_=>none)
 |.fm n c w cl pre lA post=>(match b' with
  |.fm n' c' w' Ux NT NU Ex=>bif Nat.beq n n'&&Nat.beq c c'&&Nat.beq (π w) w'&&(cl==Ux)&&Nat.blt 0 (B.K c)then(match bn hp.1 w with
    |some (.fr c2 Zq Xv n2 Ss)=>bif Nat.beq c2 c&&(Zq==cl)&&Nat.beq n2 lA.length then se (some [(.agg [.sl false (pre.map (B.E c)),.sl false (post.map (B.E c)),.sl false (pre.map (B.E c)),.sl false (post.map (B.E c))],.agg [.sl false (NT.map (B.E c')),.sl false (Ex.map (B.E c')),.sl false (Xv.map (B.E c2)),.sl false (Ss.map (B.E c2))])]) (LS (Hn B hp ok π 4) lA NU)else none
    |_=>none)else none
  |.ls n' c' x' _ _=>(match pre with
   | []=>(match lA with
    | []=>(match post with
     | []=>bif Nat.beq n n' then some [(.sl false [],.sl false (x'.map (B.E c')))]else none
     |_=>none)
    |_=>none)
   |_=>none)
  |_=>none)
 |.fr c cl pre n post=>(match b' with
  |.fr c' Ux NT n' Ex=>bif Nat.beq c c'&&(cl==Ux)&&Nat.beq n n'&&Nat.blt 0 (B.K c)then some [(.agg [.sl false (pre.map (B.E c)),.sl false (post.map (B.E c))],.agg [.sl false (NT.map (B.E c')),.sl false (Ex.map (B.E c'))])]else none
  |_=>none)
def Zr(b:TB B.S):Option iV:=match b with
 |.cu n l=>bif Nat.blt 0 n then some [(.sl false (dY B.E l),.sl false [])]else none
 |.ls n c x _ _=>bif Nat.blt 0 n then some [(.sl false (x.map (B.E c)),.sl false [])]else none
 |.raw _=>none
 |.lp _ _ _ _=>none
 |.rows _ _ _ _ _=>none
 |.fm n _ _ _ pre lA post=>(match pre with
  | []=>(match lA with
   | []=>(match post with
    | []=>bif Nat.blt 0 n then some []else none
    |_=>none)
   |_=>none)
  |_=>none)
 |.fr _ _ pre _ post=>(match pre with
  | []=>(match post with
   | []=>some []
   |_=>none)
  |_=>none)
def Uy(hp:PL B.S)(ok:Nat->Bool)(π:Nat->Nat)(bf:dB B.S):dB B.S->Option iV
 | []=>some []
 |(t,x)::r=>se (match bn bf t with
  |some y=>Hn B hp ok π 4 x y
  |none=>none) (Uy hp ok π bf r)
def NV(hp:PL B.S)(ok:Nat->Bool)(π:Nat->Nat)(bG:Nat)(s:dH B.S):List (Nat×TB B.S)->Option iV
 | []=>some []
 |(id,b)::r=>se (match bn s.heap (π id)with
  |some b'=>zb B hp ok π b b'
  |none=>bif Nat.ble bG id&&Nat.ble s.bN (π id)then Zr B b else none) (NV hp ok π bG s r)
def CQ{S:Nat->Type}:TB S->Bool
 |.fr _ _ pre _ post=>(match pre with
  | []=>(match post with
   | []=>true
   |_=>false)
  |_=>false)
 |b=>!(gi b)
def NW(bG:Nat)(L:List (Nat×Nat))(S2 s:dH B.S):Bool:=
 L.all (λp=>Nat.ble bG p.1)&&S2.heap.all (λp=>Nat.blt p.1 S2.bN&&(!(gi p.2)||Nat.blt (pi L p.1) s.bN||CQ p.2)&&S2.heap.all λq=>Nat.beq p.1 q.1||!(Nat.beq (pi L p.1) (pi L q.1))||Nat.ble s.bN (pi L p.1))&&Nat.ble bG S2.bN&&
  (ub (kS B s.heap) (kS B S2.heap)&&s.heap.all λp=>!qu (fT B p.2)||Nat.blt p.1 bG)&&
  (pP S2.heap&&pP s.heap&&Bs S2.bN S2.heap&&Bs s.bN s.heap&&(jI L s.bN S2.heap).all λv=>Nat.ble bG v.1||Nat.beq v.1 v.2)
def NX(bG:Nat)(L:List (Nat×Nat))(E2:dB B.S)(S2:dH B.S)(bf:dB B.S)(s:dH B.S):Option iV:=
 bif NW B bG L S2 s then se (Uy B (S2.heap,s.heap) (fU bG (db B S2).heap) (pw L (jI L s.bN S2.heap)) bf E2) (NV B (S2.heap,s.heap) (fU bG (db B S2).heap) (pw L (jI L s.bN S2.heap)) bG s S2.heap)else none
end
section
variable {B:iU} {ok:Nat->Bool} {π:Nat->Nat} {hp:PL B.S}
theorem I0{x:TV B.S}{id a b:Nat}(h:CO x=some (id,a,b)):x.er B.E=.ms id a b:=by
 unfold CO at h;split at h<;>first|(cases h;rfl)|cases h
theorem Q5{x:TV B.S}{l:List AV}(h:Uv B x=some l): ∃b,x.er B.E=.sl b l:=by
 unfold Uv at h;rw[<-fJ x];generalize x.norm B=y at h;split at h<;>first|(cases h;exact⟨_,rfl⟩)|cases h
theorem one{a b:AV}{q:iV}(h:some [(a,b)]=some q)(hq: ∀p∈q,p.1=p.2):a=b:=by cases h;simp_all
theorem Uz{x y:AV}{q:iV}(h:coA ok π x y=some q)(hq: ∀p∈q,p.1=p.2):Co ok π x y:=by
 have gen: ∀{x:AV},(bif x.dn then some [(x,y)]else none)=some q->Co ok π x y:=λ{x}h=>by
  cases hc:x.dn with
  |false=>grind
  |true=>
   rw[hc]at h;have:=one h hq;subst this;exact .c hc
 cases x with
 |mp id e o=>
  cases y<;>first|(cases h;done)|skip
  rename_i fq e' o';have h:(bif ok id&&Nat.beq (π id) fq then some [(AV.mp 0 e o,AV.mp 0 e' o')]else none)=some q:=h;cases hb:(ok id&&Nat.beq (π id) fq)with
  |false=>grind
  |true=>
   rw[hb]at h;simp only[eU]at hb;have:=one h hq;cases this;exact .mp hb.1 (jU hb.2)
 |ms id a b=>
  cases y<;>first|(cases h;done)|skip
  ·rename_i f l;cases f<;>cases l<;>first|(cases h;done)|skip
   have:=one h hq;cases this;exact .n
  ·rename_i fq a' b';have h:(bif ok id&&Nat.beq (π id) fq then some [(AV.mp 0 a b,AV.mp 0 a' b')]else none)=some q:=h;cases hb:(ok id&&Nat.beq (π id) fq)with
   |false=>grind
   |true=>
    rw[hb]at h;simp only[eU]at hb;have:=one h hq;cases this;exact .ms hb.1 (jU hb.2)
 |bool _=>exact gen h
 |int _ _=>exact gen h
 |str _=>exact gen h
 |jN=>exact gen h
 |nB=>exact gen h
 |sl _ _=>exact gen h
 |ip _=>exact gen h
 |mc _ _ _ _=>exact gen h
 |fn _ _=>exact gen h
 |kK id=>
  cases y<;>first|(cases h;done)|skip
  rename_i fq;have h:(bif ok id&&Nat.beq (π id) fq then some []else none)=some q:=h;cases hb:(ok id&&Nat.beq (π id) fq)with
  |false=>grind
  |true=>
   simp only[eU]at hb;exact .y hb.1 (jU hb.2)
 |agg _=>exact gen h
 |dS _=>exact gen h
 |any=>exact gen h
theorem NY{b b':Nat}{x y:Option (TB B.S)}{q:iV}(h:NQ B b b' x y=some q)(hq: ∀p∈q,p.1=p.2):b=b':=by
 unfold NQ at h;split at h
 ·rename_i cq c x n hn;split at h
  ·rename_i KB c' x' n' mK;cases h;have h1:=hq (.mp 0 0 b,.mp 0 0 n) (by simp);have h2:=hq (.mp 0 0 b',.mp 0 0 n') (by simp);have h3:=hq (.sl false (x.map (B.E c)),.sl false (x'.map (B.E c'))) (by simp);injection h1 with _ _ h1
   injection h2 with _ _ h2
   injection h3 with _ h3
   have:=fL List.length h3
   grind
  ·rename_i KB l;cases h;have h1:=hq (.mp 0 0 b,.mp 0 0 n) (by simp);have h2:=hq (.mp 0 0 b',.mp 0 0 l.length) (by simp);have h3:=hq (.sl false (x.map (B.E c)),.sl false (dY B.E l)) (by simp);injection h1 with _ _ h1
   injection h2 with _ _ h2
   injection h3 with _ h3
   have:=fL List.length h3
   grind [iw]
  ·cases h
 ·cases h
theorem Bu{x:TV B.S}{id a b:Nat}(h:sS x=true)(hm:CO x=some (id,a,b)):a=0:=by
 unfold sS at h;split at h
 ·cases hm;simp_all
 ·cases h
theorem Q6{x y:TV B.S}{id a b:Nat}{q:iV}(hx:CO x=some (id,a,b))(h:Uw B hp ok π (sS x) id a b y=some q)(hq: ∀p∈q,p.1=p.2):Co ok π (.ms id a b) (y.er B.E):=by
 unfold Uw at h;cases hm:CO y with
 |some p=>
  obtain⟨fq,a',b'⟩:=p;rw[hm]at h;rw[I0 hm];simp only at h;cases hb:(ok id&&Nat.beq (π id) fq)with
  |false=>grind
  |true=>
   rw[hb]at h;simp only[eU]at hb;simp only[cP]at h;split at h
   ·rename_i q' hl;cases h;cases hw:(sS x&&sS y)with
    |false=>grind
    |true=>
     rw[hw]at hl;simp only[eU]at hw;have e1:=Bu hw.1 hx;have e2:=Bu hw.2 hm;subst e1;subst e2;exact .e hb.1 (jU hb.2) (NY hl hq)
   ·have:=one h hq;cases this;exact .ms hb.1 (jU hb.2)
 |none=>
  rw[hm]at h;simp only at h;split at h
  ·have:=one h hq;cases this;exact .n
  ·cases h
theorem nv{f:TV B.S->TV B.S->Option iV}(hf: ∀x y q,f x y=some q->(∀p∈q,p.1=p.2)->Co ok π (x.er B.E) (y.er B.E)): ∀{xs ys:List (TV B.S)}{q:iV},LS f xs ys=some q->(∀p∈q,p.1=p.2)->qw ok π (dY B.E xs) (dY B.E ys)
 | [],[],_,_,_=>.z
 |x::r,y::l,q,h,hq=>by
  obtain⟨⟨q1,h1,e1⟩,q2,h2,e2⟩:=gp h hq;exact .k (hf x y q1 h1 e1) (nv hf h2 e2)
 | [],_::_,_,h,_=>by cases h
 |_::_,[],_,h,_=>by cases h
theorem jV: ∀{n:Nat}{x y:TV B.S}{q:iV},Hn B hp ok π n x y=some q->(∀p∈q,p.1=p.2)->Co ok π (x.er B.E) (y.er B.E)
 |0,_,_,_,h,_=>by cases h
 |n+1,x,y,q,h,hq=>by
  unfold Hn at h;split at h
  ·rename_i id a b hm;rw[I0 hm];exact Q6 hm h hq
  ·rename_i hm;split at h
   ·rename_i x0;have gen: ∀{z:AV},(bif x0.dn then some [(x0,z)]else none)=some q->Co ok π x0 z:=λ{z}h=>by
     cases hc:x0.dn with
     |false=>grind
     |true=>
      rw[hc]at h;have:=one h hq;rw[<-this];exact .c hc
    split at h
    ·exact Uz h hq
    ·exact gen h
   ·rename_i c x;split at h
    ·rename_i l hl;obtain⟨b,hb⟩:=Q5 hl;have:=one h hq;cases this;rw[hb];exact .s (lG c x)
    ·cases h
   ·rename_i g cs;split at h
    ·rename_i g' cs';cases hb:Nat.beq g g' with
     |false=>grind
     |true=>
      simp only[hb,cP]at h;have e:=jU hb;subst e;exact .f (nv (λ_ _ _=>jV) h hq)
    ·cases h
   ·split at h
    ·exact .t (nv (λ_ _ _=>jV) h hq)
    ·cases h
   ·rename_i cs;split at h
    ·exact .a (nv (λ_ _ _=>jV) h hq)
    ·rename_i l;cases hc:Dy cs with
     |false=>
      simp only[hc,dv]at h;have:=nv (λ_ _ _=>jV) h hq;rw[NR]at this;exact .a this
     |true=>
      simp only[hc,cP]at h;have:=one h hq;show Co ok π (.agg (dY B.E cs)) _;rw[TV.er,<-this];exact .c (nu (B:=B) hc)
    ·cases hc:Dy cs with
     |false=>grind
     |true=>
      simp only[hc,cP]at h;have:=one h hq;rw[<-this];exact .c (nu (B:=B) hc)
   ·rename_i c x;split at h
    ·rename_i cs';cases hb:CP cs' with
     |true=>
      simp only[hb,cP]at h;have:=jV h hq;rw[B.hX]at this;exact this
     |false=>
      simp only[hb,dv]at h;have:=one h hq;show Co ok π (B.E c x) _;rw[TV.er,<-this];exact .c (B.hc c x)
    ·rename_i l;cases hb:CP (aL B.S l)with
     |true=>
      simp only[hb,cP]at h;have:=jV h hq;rw[B.hX,TV.er,NR]at this;exact this
     |false=>
      simp only[hb,dv]at h;have:=one h hq;show Co ok π (B.E c x) _;rw[TV.er,<-this];exact .c (B.hc c x)
    ·have:=one h hq;show Co ok π (B.E c x) _;rw[<-this];exact .c (B.hc c x)
   ·have gen: ∀{z:TV B.S}{w:AV},(bif z.cl then some [(z.er B.E,w)]else none)=some q->Co ok π (z.er B.E) w:=λ{z w}h=>by
     cases hc:z.cl with
     |false=>grind
     |true=>
      rw[hc]at h;have:=one h hq;rw[<-this];exact .c (za hc)
    exact gen h
theorem NZ(n:Nat):eO (List.replicate n (AV.sl true []))=true:=by
 induction n with
 |zero=>rfl
 |succ n ih=>simp only[List.replicate_succ,eO,ih,AV.dn,Bool.and_self]
theorem CR(hF:yZ B hp.1 ok π){b b':TB B.S}{q:iV}(h:zb B hp ok π b b'=some q)(hq: ∀p∈q,p.1=p.2):AD ok π (fT B b) (fT B b'):=by
 unfold zb at h;split at h
 ·rename_i n l;split at h
  ·rename_i n' l';cases hb:Nat.beq n n' with
   |false=>grind
   |true=>
    simp only[hb,cP]at h;have e:=jU hb;subst e;exact .cells (nv (λ_ _ _=>jV) h hq)
  ·rename_i n' c x _ _;cases hb:Nat.beq n n'&&Dy l with
   |false=>grind
   |true=>
    simp only[hb,cP]at h;simp only[eU]at hb;have e:=jU hb.1;subst e;have:=one h hq;injection this with _ this
    simp only[fT,<-this];exact .cells (.r (nu (B:=B) hb.2))
  ·cases h
 ·rename_i n c x _ _;split at h
  ·rename_i n' l';cases hb:Nat.beq n n' with
   |false=>grind
   |true=>
    simp only[hb,cP]at h;have e:=jU hb;subst e;have:=one h hq;injection this with _ this
    simp only[fT,<-this];exact .cells (.r (lG c x))
  ·rename_i n' c' x' _ _;cases hb:Nat.beq n n' with
   |false=>grind
   |true=>
    simp only[hb,cP]at h;have e:=jU hb;subst e;have:=one h hq;injection this with _ this
    simp only[fT,<-this];exact .cells (.r (lG c x))
  ·cases h
 ·split at h
  ·split at h
   ·exact .gq
   ·cases h
  ·cases h
 ·rename_i c bf st pd;split at h
  ·rename_i c' env' Ao pd';cases hb:Nat.beq c c'&&Nat.beq st Ao&&Q3 pd pd'&&NS bf env' with
   |false=>grind
   |true=>
    simp only[hb,cP]at h;simp only[eU]at hb;obtain⟨⟨⟨e1,e2⟩,e3⟩,e4⟩:=hb;have e1:=jU e1;have e2:=jU e2;have e3:=Q4 e3;subst e1;subst e2;subst e3;simp only[fT,IZ,IY e4];exact .loop (nv (λ_ _ _=>jV) h hq)
  ·cases h
 ·rename_i n c x v k;split at h
  ·rename_i n' c' x' v' k';cases hb:Nat.beq n n' with
   |false=>grind
   |true=>
    simp only[hb,cP]at h;have e:=jU hb;subst e;obtain⟨⟨q1,h1,e1⟩,q2,h2,e2⟩:=gp h hq;have:=one h1 e1;simp only[AV.agg.injEq,List.cons.injEq,AV.sl.injEq,AV.mp.injEq,PZ,RZ]at this;obtain⟨hm,hk⟩:=this;subst hk;simp only[fT,<-hm];exact .cells (.p (.r (lG c x)) (.p (nv (λ_ _ _=>jV) h2 e2) (.r (NZ k))))
  ·cases h
 ·rename_i n c w cl pre lA post;split at h
  ·rename_i n' c' w' Ux NT NU Ex;cases hb:Nat.beq n n'&&Nat.beq c c'&&Nat.beq (π w) w'&&(cl==Ux)&&Nat.blt 0 (B.K c)with
   |false=>grind
   |true=>
    simp only[hb,cP]at h;simp only[eU,beq_iff_eq,tv]at hb;obtain⟨⟨⟨⟨e1,e2⟩,e3⟩,e4⟩,hk⟩:=hb;have e1:=jU e1;have e2:=jU e2;have e3:=jU e3;subst e1;subst e2;subst e3;subst e4;split at h
    ·rename_i c2 Zq Xv n2 Ss hg;cases Gu:Nat.beq c2 c&&(Zq==cl)&&Nat.beq n2 lA.length with
     |false=>grind
     |true=>
      simp only[Gu,cP]at h;simp only[eU,beq_iff_eq]at Gu;obtain⟨⟨e5,e6⟩,e7⟩:=Gu;have e5:=jU e5;have e7:=jU e7;subst e5;subst e6;subst e7;obtain⟨⟨q1,h1,e1⟩,q2,h2,e2⟩:=gp h hq;have:=one h1 e1;simp only[AV.agg.injEq,List.cons.injEq,AV.sl.injEq,PZ,RZ]at this;obtain⟨m1,m2,m3,m4⟩:=this;have m1:=map_inj hk m1;have m2:=map_inj hk m2;have m3:=map_inj hk m3;have m4:=map_inj hk m4;subst m1;subst m2;subst m3;subst m4;have AJ:=nv (λ_ _ _=>jV) h2 e2;have R1:NU.length=lA.length:=by have:=AJ.length;grind [iw]
      have hf:=hF w _ hg;simp only[eP]at hf;simp only[fT,R1];refine .cells (.p ?_ (.p AJ ?_))
      ·cases Zq with
       |true=>exact .r (lG c2 pre)
       |false=>simp_all[rK,cX]
      grind [rK,cX]
    ·cases h
  ·rename_i n' c' x' _ _;split at h
   ·split at h
    ·split at h
     ·cases hb:Nat.beq n n' with
      |false=>grind
      |true=>
       simp only[hb,cP]at h;have e:=jU hb;subst e;have:=one h hq;injection this with _ this
       simp only[fT,<-this];cases cl<;>exact .cells .z
     ·cases h
    ·cases h
   ·cases h
  ·cases h
 ·split at h
  ·exact .cells .z
  ·cases h
theorem xy{c n:Nat}{cl:Bool}{pre post:List (B.S c)}{b':TB B.S}{q:iV}(h:zb B hp ok π (.fr c cl pre n post) b'=some q)(hq: ∀p∈q,p.1=p.2):b'=.fr c cl pre n post:=by
 unfold zb at h;simp only at h;split at h
 ·rename_i c' Ux NT n' Ex;cases hb:Nat.beq c c'&&(cl==Ux)&&Nat.beq n n'&&Nat.blt 0 (B.K c)with
  |false=>grind
  |true=>
   simp only[hb,cP]at h;simp only[eU,beq_iff_eq,tv]at hb;obtain⟨⟨⟨e1,e2⟩,e3⟩,hk⟩:=hb;have e1:=jU e1;have e3:=jU e3;subst e1;subst e2;subst e3;have:=one h hq;simp only[AV.agg.injEq,List.cons.injEq,AV.sl.injEq,PZ,RZ]at this
   grind [map_inj]
 ·cases h
theorem UA{b:TB B.S}{q:iV}(h:Zr B b=some q)(hq: ∀p∈q,p.1=p.2): ∃cq,0<cq/\fT B b=.cells cq []:=by
 unfold Zr at h;split at h
 ·rename_i n l;cases hb:Nat.blt 0 n with
  |false=>grind
  |true=>
   simp only[hb,cP]at h;have:=one h hq;injection this with _ this
   exact⟨n,by simp_all,by simp only[fT,this]⟩
 ·rename_i n c x _ _;cases hb:Nat.blt 0 n with
  |false=>grind
  |true=>
   simp only[hb,cP]at h;have:=one h hq;injection this with _ this
   exact⟨n,by simp_all,by simp only[fT,this]⟩
 ·cases h
 ·cases h
 ·cases h
 ·rename_i n c w cl pre lA post;split at h
  ·split at h
   ·split at h
    ·cases hb:Nat.blt 0 n with
     |false=>grind
     |true=>exact⟨n,by simp_all,by cases cl<;>rfl⟩
    ·cases h
   ·cases h
  ·cases h
 ·exact⟨1,by decide,rfl⟩
theorem I1{bf:dB B.S}: ∀{E2:dB B.S}{q:iV},Uy B hp ok π bf E2=some q->(∀p∈q,p.1=p.2)-> ∀t x,bn (eI B E2) t=some x-> ∃y,bn (eI B bf) t=some y/\Co ok π x y
 | [],_,_,_,t,x,hx=>by simp[eI,df]at hx
 |(k,X)::r,q,h,hq,t,x,hx=>by
  obtain⟨⟨q1,h1,e1⟩,q2,h2,e2⟩:=gp h hq;simp only[eI,cG]at hx;split at hx
  ·rename_i e;subst e;cases hx;split at h1
   ·rename_i y hy;exact⟨_,by rw[lR,hy];rfl,jV h1 e1⟩
   ·cases h1
  ·exact I1 h2 e2 t x hx
theorem I2(hF:yZ B hp.1 ok π){bG:Nat}{s:dH B.S}: ∀{h2:List (Nat×TB B.S)}{q:iV},NV B hp ok π bG s h2=some q->(∀p∈q,p.1=p.2)->LN ok π bG (db B s) (kS B h2)
 | [],_,_,_=>.z
 |(id,b)::r,q,h,hq=>by
  obtain⟨⟨q1,h1,e1⟩,q2,h2,e2⟩:=gp h hq;have ih:=I2 hF h2 e2;split at h1
  ·rename_i b' hb;exact .k (dl hb) (CR hF h1 e1) ih
  ·cases hc:Nat.ble bG id&&Nat.ble s.bN (π id)with
   |false=>grind
   |true=>
    simp only[hc,cP]at h1;simp only[eU]at hc;obtain⟨cq,h0,he⟩:=UA h1 e1;simp only[kS,he];exact .n hc.1 hc.2 (by simp_all) ih
theorem I3{bG:Nat}{s:dH B.S}{c n:Nat}{cl:Bool}{pre post:List (B.S c)}: ∀{h2:List (Nat×TB B.S)}{q:iV},NV B hp ok π bG s h2=some q->(∀p∈q,p.1=p.2)-> ∀{w:Nat},bn h2 w=some (.fr c cl pre n post)->bn s.heap (π w)=some (.fr c cl pre n post)\/(s.bN<=π w/\pre=[]/\post=[])
 | [],_,_,_,w,hg=>by simp[df]at hg
 |(id,b)::r,q,h,hq,w,hg=>by
  obtain⟨⟨q1,h1,e1⟩,q2,h2,e2⟩:=gp h hq;simp only[cG]at hg;split at hg
  ·rename_i e;cases hg;subst e;split at h1
   ·grind [xy]
   ·cases hc:Nat.ble bG id&&Nat.ble s.bN (π id)with
    |false=>grind
    |true=>
     simp only[hc,cP]at h1;simp only[eU]at hc;refine .inr ⟨vd hc.2,?_⟩;simp only[Zr]at h1
     grind
  ·exact I3 h2 e2 hg
theorem N0{bG:Nat}{s:dH B.S}: ∀{h2:List (Nat×TB B.S)}{q:iV},NV B hp ok π bG s h2=some q->(∀p∈q,p.1=p.2)-> ∀{id:Nat}{b:TB B.S},bn h2 id=some b->(∃b',bn s.heap (π id)=some b')\/s.bN<=π id
 | [],_,_,_,id,_,hg=>by simp[df]at hg
 |(k,b0)::r,q,h,hq,id,b,hg=>by
  obtain⟨⟨q1,h1,e1⟩,q2,h2,e2⟩:=gp h hq;simp only[cG]at hg;split at hg
  ·rename_i e;subst e;split at h1
   ·grind
   ·cases hc:Nat.ble bG k&&Nat.ble s.bN (π k)with
    |false=>grind
    |true=>
     simp_all
  ·exact N0 h2 e2 hg
theorem CS{bG:Nat}{L:List (Nat×Nat)}{E2 bf:dB B.S}{S2 s:dH B.S}{q:iV}(h:NX B bG L E2 S2 bf s=some q)(hq: ∀p∈q,p.1=p.2):D9 bG (pw L (jI L s.bN S2.heap)) (eI B E2) (db B S2) (eI B bf) (db B s):=by
 unfold NX at h;cases hb:NW B bG L S2 s with
 |false=>grind
 |true=>
  simp only[hb,cP]at h;obtain⟨⟨q1,h1,e1⟩,q2,h2,e2⟩:=gp h hq;simp only[NW,eU]at hb;obtain⟨⟨⟨⟨b1,b2⟩,b3⟩,b4,b5⟩,⟨⟨⟨w1,w2⟩,w3⟩,w4⟩,w5⟩:=hb;have b3:=vd b3;have key: ∀{id b},bn S2.heap id=some b->id<S2.bN/\(gi b=false\/pi L id<s.bN\/CQ b=true)/\ ∀{fq b'},bn S2.heap fq=some b'->id=fq\/pi L id≠pi L fq\/s.bN<=pi L id:=λ{id b}hg=>by
   have:=dR b2 hg;simp only[eU,tv,vm,sr]at this;refine⟨this.1.1,?_,λ{fq b'}mL=>?_⟩
   ·grind
   have:=dR this.2 mL;simp only[vm,sr,Gg]at this
   grind [Nat.eq_of_beq_eq_true,AH]
  have full: ∀{w b id x},bn S2.heap w=some b->bn (eP B w b) id=some x->gi b=true/\fV w id=false/\pi L w<s.bN:=λ{w b id x}hg hx=>by
   obtain⟨f1,f2⟩:=fc hx;refine⟨f1,f2,?_⟩;rcases(key hg).2.1 with h|h|h
   ·grind
   ·exact h
   ·exfalso;obtain⟨c,cl,pre,n,post,rfl⟩:=l6 f1;unfold CQ at h;simp only at h;split at h
    ·split at h
     ·cases cl<;>simp[eP,gW,df]at hx
     ·cases h
    ·cases h
  have row: ∀{w b id x},bn S2.heap w=some b->bn (eP B w b) id=some x->pw L (jI L s.bN S2.heap) id=pi L w+(id-w):=λ{w b id x}hg hx=>by
   grind [Hl]
  have hF:yZ B S2.heap (fU bG (db B S2).heap) (pw L (jI L s.bN S2.heap)):=λw b hg id x hx=>⟨qx (js w1 hg hx),by grind [mB]⟩;have Q7:=I2 (hp:=(S2.heap,s.heap)) hF h2 e2;have was: ∀{w b id x},bn S2.heap w=some b->bn (eP B w b) id=some x->bn s.heap (pi L w)=some b/\fV (pi L w) (pi L w+(id-w))=false/\ ∃x',bn (db B s).heap (pi L w+(id-w))=some x'/\bn (kS B s.heap) (pi L w+(id-w))=none/\AD (fU bG (db B S2).heap) (pw L (jI L s.bN S2.heap)) x x':=λ{w b id x}hg hx=>by
   obtain⟨f1,f2,f3⟩:=full hg hx;obtain⟨c,cl,pre,n,post,rfl⟩:=l6 f1;have hs:bn s.heap (pi L w)=some (.fr c cl pre n post):=by
    grind [I3,mB]
   obtain⟨x',Aw,hc⟩:=ur (w':=pi L w) (λid x hx=>⟨(hF w _ hg id x hx).1,row hg hx⟩) id x hx
   grind [fc,js,IX]
  have not: ∀{w b id x k c},bn S2.heap w=some b->bn (eP B w b) id=some x->bn S2.heap k=some c->pi L k=pi L w+(id-w)->False:=λ{w b id x k c}hg hx hk e=>by
   obtain⟨p1,p2,x',q1,q2,_⟩:=was hg hx;rcases N0 h2 e2 hk with⟨b2,k5⟩|k5
   ·grind [mB,gv]
   ·rw[mB w1 hk]at k5;obtain⟨f1,_⟩:=fc hx;have:=dR w4 p1;simp only[f1,pV,Ie]at this;have:=vd this;obtain⟨o1,o2⟩:=fB p2;omega
  refine⟨⟨⟨?_,?_,?_,?_,b3⟩,?_⟩,I1 h1 e1⟩
  ·intro id x hx;rcases ie w1 hx with⟨b,hg,rfl⟩|⟨hn,w,b,hg,hr⟩
   ·exact Q7.get id _ (by rw[gv,hg];rfl)
   grind
  ·intro id hl;unfold pw;split
   ·rename_i v hv;obtain⟨v1,v2⟩:=px hv;have:=qc.1 w5 v v1;simp only[vm]at this;obtain⟨o1,o2⟩:=fB v2;rcases this with h|h
    ·have:=vd h;omega
    grind [Nat.eq_of_beq_eq_true]
   ·exact M3 b1 hl
  ·intro id fq x x' hx Aw e;rcases ie w1 hx with⟨b,hg,rfl⟩|⟨hn,w,b,hg,hr⟩
   ·rw[mB w1 hg]at e |-
    rcases ie w1 Aw with⟨b',mL,rfl⟩|⟨mK,w',b',mL,Qz⟩
    ·rw[mB w1 mL]at e;rcases(key hg).2.2 mL with h|h|h
     ·exact .inl h
     ·grind
     ·exact .inr h
    grind
   ·rw[row hg hr]at e |-
    rcases ie w1 Aw with⟨b',mL,rfl⟩|⟨mK,w',b',mL,Qz⟩
    all_goals grind [mB,mA]
  ·intro id x hx;rcases ie w1 hx with⟨b,hg,rfl⟩|⟨hn,w,b,hg,hr⟩
   ·exact(key hg).1
   ·obtain⟨f1,f2⟩:=fc hr;have:=dR w3 hg;simp only[f1,pV,Ie]at this;have:=vd this;obtain⟨o1,o2⟩:=fB f2;show id<S2.bN;omega
  ·intro id hd;rcases ie w2 hd with⟨b,hg,hb⟩|⟨hn,w,b,hg,hr⟩
   ·have:=dR b5 hg;simp only[<-hb,qu,pV,Ie,tv]at this;refine⟨this,?_⟩;have:=ly b4 id (by grind [gv]);simp only[db];rw[cX,this]
   grind [oI]
end
section
variable {S:Nat->Type}
def PM(f:TV S->TV S->List (Nat×Nat)):List (TV S)->List (TV S)->List (Nat×Nat)
 |x::r,y::l=>f x y++PM f r l
 |_,_=>[]
def PN(Hp:Nat):Nat->TV S->TV S->List (Nat×Nat)
 |0,_,_=>[]
 |n+1,x,y=>match CO x with
  |some (i,_,_)=>(match CO y with
   |some (j,_,_)=>[(i,j)]
   |none=>[(i,Hp+i)])
  |none=>match x with
   |.a (.mp i _ _)=>(match y with
    |.a (.mp j _ _)=>[(i,j)]
    |_=>[])
   |.a (.kK i)=>(match y with
    |.a (.kK j)=>[(i,j)]
    |_=>[])
   |.fn _ cs=>(match y with
    |.fn _ cs'=>PM (PN Hp n) cs cs'
    |_=>[])
   |.dS cs=>(match y with
    |.dS cs'=>PM (PN Hp n) cs cs'
    |_=>[])
   |.agg cs=>(match y with
    |.agg cs'=>PM (PN Hp n) cs cs'
    |.a (.agg l)=>PM (PN Hp n) cs (aL S l)
    |_=>[])
   |_=>[]
def Ey(bG:Nat):List (Nat×Nat)->List (Nat×Nat)
 | []=>[]
 |p::r=>bif Nat.ble bG p.1 then p::Ey bG r else Ey bG r
def prE(Hp:Nat)(bf:dB S):dB S->List (Nat×Nat)
 | []=>[]
 |(t,x)::r=>(match bn bf t with
  |some y=>PN Hp 4 x y
  |none=>[])++prE Hp bf r
def Su(Hp:Nat)(d:Bool)(L:List (Nat×Nat))(h:List (Nat×TB S)):List (Nat×TB S)->List (Nat×Nat)
 | []=>[]
 |(id,b)::r=>(match b with
  |.cu _ l=>(match bn h (pi L id)with
   |some (.cu _ l')=>PM (PN Hp 4) l l'
   |_=>[])
  |.rows _ _ _ v _=>(match bn h (pi L id)with
   |some (.rows _ _ _ v' _)=>PM (PN Hp 4) v v'
   |_=>[])
  |.lp _ bf _ _=>(match bn h (pi L id)with
   |some (.lp _ env' _ _)=>PM (PN Hp 4) (Ho bf) (Ho env')
   |_=>[])
  |.fm _ _ w _ _ lA _=>(match bn h (pi L id)with
   |some (.fm _ _ w' _ _ NU _)=>(w,w')::PM (PN Hp 4) lA NU
   |_=>bif d then [(w,Hp+w)]else [])
  |_=>[])++Su Hp d L h r
def N1(bG:Nat)(E2:dB S)(S2:dH S)(bf:dB S)(s:dH S):List (Nat×Nat):=
 match Ey bG (prE s.bN bf E2)with
 |l0=>match l0++Ey bG (Su s.bN false l0 s.heap S2.heap)with
  |l1=>l1++Ey bG (Su s.bN true l1 s.heap S2.heap)
def l7:List Nat->dB S->dB S
 | [],_=>[]
 |t::r,bf=>match bn bf t with
  |some x=>(t,x)::l7 r bf
  |none=>l7 r bf
def ln:List Nat->List (Nat×TB S)->List (Nat×TB S)
 | [],_=>[]
 |i::r,h=>match bn h i with
  |some b=>(i,b)::ln r h
  |none=>ln r h
def yOf:TO S->Option Code
 |.ro _ y=>y
 |.po _ _ _ y=>y
 |.rd _ _ y=>y
 |.pl _ _ _ _ _ _ _ _ y=>y
 |.ph _ _ _ _ _ y=>y
 |_=>none
end
def Q8(ρ:Option Nat)(n:Nat):Bool:=match ρ with
 |none=>true
 |some id=>Nat.blt id n
theorem Q9{ρ:Option Nat}{n:Nat}(h:Q8 ρ n=true): ∀id,ρ=some id->id<n:=λid e=>by
 subst e;simpa[Q8,tv]using h
def AK(B:iU)(ρ:Option Nat)(bG:Nat)(E2:dB B.S)(S2:dH B.S)(M:TM B.S):iV:=match(bif Q8 ρ bG then NX B bG (N1 bG E2 S2 M.bf M.s) E2 S2 M.bf M.s else none)with
 |some q=>q
 |none=>[(.any,.jN)]
theorem xz{B:iU}{ρ:Option Nat}{bG:Nat}{E2:dB B.S}{S2:dH B.S}{M:TM B.S}(hq: ∀p∈AK B ρ bG E2 S2 M,p.1=p.2):(∀id,ρ=some id->id<bG)/\ ∃π,D9 bG π (eI B E2) (db B S2) (eI B M.bf) (db B M.s):=by
 unfold AK at hq;cases hb:Q8 ρ bG with
 |false=>
  simp_all
 |true=>
  rw[hb]at hq;simp only[cP]at hq;refine⟨Q9 hb,?_⟩;split at hq
  ·rename_i q h;exact⟨_,CS h hq⟩
  simp_all
section
variable {B:iU} {P:Program} {N:Nat} {ρ:Option Nat} {Q:Exit->Env->St->Prop} {M:TM B.S} {α β:Type} {r:β}
def Zs(B:iU)(P:Program)(N:Nat)(M:TM B.S)(run:Bool)(n:Nat)(cZ ids:List Nat)(bN:Nat)(U:dB B.S×List (Nat×TB B.S)):TM B.S:=
 ⟨bif run then CJ (yOf (G B P N M).1.o)else .out .normal,(G B P N M).1.k.drop n,U.1++l7 cZ (G B P N M).1.bf,⟨U.2++ln ids (G B P N M).1.s.heap,bN⟩⟩
theorem tJ{J:Type}{o:Option J}{K:J->Option β}(h:o.bind K=some r)(run:Bool)(n:Nat)(cZ ids:List Nat)(bN:Nat)(U:J->dB B.S×List (Nat×TB B.S))
  (h1: ∀a,o=some a->(∀j,a=j->RT B P N ρ Q (Zs B P N M run n cZ ids bN (U j)))->RT B P N ρ Q M) (h2: ∀j,K j=some r->RT B P N ρ Q (Zs B P N M run n cZ ids bN (U j))):RT B P N ρ Q M:=
 let⟨a,ha,hK⟩:=lY h
 h1 a ha λj e=>h2 j (e ▸ hK)
theorem ik{J:Type}{o:Option (J⊕β)}{K:J->Option β}(h:o.bind (Sum.elim K some)=some r)(run:Bool)(n:Nat)(cZ ids:List Nat)(bN:Nat)(U:J->dB B.S×List (Nat×TB B.S))
  (h1: ∀a,o=some a->(∀j,a=.inl j->RT B P N ρ Q (Zs B P N M run n cZ ids bN (U j)))->Sum.elim K some a=some r->RT B P N ρ Q M) (h2: ∀j,K j=some r->RT B P N ρ Q (Zs B P N M run n cZ ids bN (U j))):RT B P N ρ Q M:=
 let⟨a,ha,hK⟩:=lY h
 h1 a ha (λj e=>h2 j (by grind)) hK
theorem sj{γ:Type}{a b:γ}(h:some a=some b):b=a:=(Option.some.inj h).symm
theorem sE{J:Type}{x:β}{a:J⊕β}{K:J->Option β}(h:some (Sum.inr x)=some a)(h2:Sum.elim K some a=some r):some x=some r:=by grind
def toRun(B:iU)(P:Program)(N:Nat)(T M:TM B.S):TM B.S×iV:=Uo B P N (Sq (yT T.o) T.k.length) FT M
theorem I4{o:TO B.S}{k:List Fr}{bf E2:dB B.S}{s S2:dH B.S}(ho:kD o=true){π:Nat->Nat}{bG:Nat}(AE: ∀id,ρ=some id->id<bG)(hb:s.bN<=bG)(hI:D9 bG π (eI B E2) (db B S2) (eI B bf) (db B s))(h:kU B P N ρ Q ⟨o,k,E2,S2⟩):kU B P N ρ Q ⟨o,k,bf,s⟩:=by
 cases o<;>simp only[kD]at ho<;>first|(cases ho;done)|skip
 ·have h:vE P N ρ Q ⟨.run _,k,eI B E2,db B S2⟩:=h;exact qC (bG:=bG) hb (qB AE hI) h
 ·have h:vE P N ρ Q ⟨.out _,k,eI B E2,db B S2⟩:=h;exact qC (bG:=bG) hb (qB AE hI) h
theorem tM{T:TM B.S}(kj:RT B P N ρ Q T)(hx:(kD T.o,(toRun B P N T M).1.o,(toRun B P N T M).1.k,(toRun B P N T M).2.map Prod.fst,(AK B ρ (toRun B P N T M).1.s.bN T.bf T.s (toRun B P N T M).1).map Prod.fst)=
  (true,T.o,T.k,(toRun B P N T M).2.map Prod.snd,(AK B ρ (toRun B P N T M).1.s.bN T.bf T.s (toRun B P N T M).1).map Prod.snd):=by kernel_rfl):RT B P N ρ Q M:=by
 simp only[Prod.mk.injEq]at hx;obtain⟨h0,h1,h2,h3,h4⟩:=hx;refine⟨kW (dW h3) ?_⟩;obtain⟨AE,L,hI⟩:=xz (dW h4);have e:(toRun B P N T M).1=⟨T.o,T.k,(toRun B P N T M).1.bf,(toRun B P N T M).1.s⟩:=by rw[<-h1,<-h2]
 show kU B P N ρ Q (toRun B P N T M).1;rw[e];exact I4 h0 AE (fw _) hI kj.v
def UB{S:Nat->Type}:TO S->Code
 |.run (.loop x)=>x
 |_=>.skip
def I5{S:Nat->Type}:TO S->Bool
 |.run (.loop _)=>true
 |_=>false
section
variable {σ τ:Type}
def UC(B:iU)(P:Program)(N:Nat)(M:TM B.S)(cZ:List Nat)(U:σ->dB B.S×List (Nat×TB B.S))(st:σ):dB B.S:=(U st).1++l7 cZ (G B P N M).1.bf
def UD(B:iU)(P:Program)(N:Nat)(M:TM B.S)(ids:List Nat)(bN:Nat)(U:σ->dB B.S×List (Nat×TB B.S))(st:σ):dH B.S:=⟨(U st).2++ln ids (G B P N M).1.s.heap,bN⟩
def loF(B:iU)(P:Program)(N:Nat)(ρ:Option Nat)(M:TM B.S)(cZ ids:List Nat)(bN:Nat)(U:σ->dB B.S×List (Nat×TB B.S))(out:σ⊕τ):Fr:=
 .lp (Nx N ρ (G B P N M).1.s.bN (λst=>eI B (UC B P N M cZ U st)) (λst=>db B (UD B P N M ids bN U st)) out) (∃r,out=.inr r)
structure LT (B:iU) (P:Program) (N:Nat) (M:TM B.S) (cZ ids:List Nat) (bN:Nat) (U:σ->dB B.S×List (Nat×TB B.S)) (out:σ⊕τ):Prop where
 t:True
theorem tL{body:σ->Option (σ⊕τ)}{n:Nat}{LO:σ}{LP:τ}(hl:bO body n LO=some LP)(cZ ids:List Nat)(bN:Nat)(U:σ->dB B.S×List (Nat×TB B.S))
  (round: ∀st out,body st=some out->(∀r,out=.inr r->r=LP)->LT B P N M cZ ids bN U out->RT B P N ρ Q ⟨.run (UB (G B P N M).1.o),loF B P N ρ M cZ ids bN U out::(G B P N M).1.k,UC B P N M cZ U st,UD B P N M ids bN U st⟩)
  (hx:(I5 (G B P N M).1.o,(G B P N M).2.map Prod.fst,(AK B ρ (G B P N M).1.s.bN (UC B P N M cZ U LO) (UD B P N M ids bN U LO) (G B P N M).1).map Prod.fst)=
   (true,(G B P N M).2.map Prod.snd,(AK B ρ (G B P N M).1.s.bN (UC B P N M cZ U LO) (UD B P N M ids bN U LO) (G B P N M).1).map Prod.snd):=by kernel_rfl):RT B P N ρ Q M:=by
 simp only[Prod.mk.injEq]at hx;obtain⟨h0,h1,h2⟩:=hx;refine sd h1 ⟨?_⟩;obtain⟨AE,L,hI⟩:=xz (dW h2);have rd:=λst out h1 h2=>(round st out h1 h2 ⟨trivial⟩).v;clear round;unfold loF at rd;generalize UC B P N M cZ U=E at *;generalize UD B P N M ids bN U=Z at *;clear h1 h2;generalize(G B P N M).1=g at *;obtain⟨o,k,bf,s⟩:=g;simp only at *;cases o<;>simp only[I5]at h0<;>first|(cases h0;done)|skip
 rename_i c;cases c<;>simp only at h0<;>first|(cases h0;done)|skip
 rename_i x;exact QC (s:=db B s) body hl (λst=>eI B (E st)) (λst=>db B (Z st)) (qB AE hI) λst out hb hr=>rd st out hb hr
theorem tN{M':TM B.S}{cZ ids:List Nat}{bN:Nat}{U:σ->dB B.S×List (Nat×TB B.S)}{out:σ⊕τ}{st:σ}(K:LT B P N M' cZ ids bN U out)(h:some (.inl st)=some out)
  (hx:((G B P N M).1.o,(G B P N M).1.k,(G B P N M).2.map Prod.fst,(AK B ρ (G B P N M').1.s.bN (UC B P N M' cZ U st) (UD B P N M' ids bN U st) (G B P N M).1).map Prod.fst)=
   (.out .normal,loF B P N ρ M' cZ ids bN U out::(G B P N M').1.k,(G B P N M).2.map Prod.snd,(AK B ρ (G B P N M').1.s.bN (UC B P N M' cZ U st) (UD B P N M' ids bN U st) (G B P N M).1).map Prod.snd):=by kernel_rfl):RT B P N ρ Q M:=by
 simp only[Prod.mk.injEq]at hx;obtain⟨h0,h1,h2,h3⟩:=hx;refine sd h2 ⟨?_⟩;obtain⟨AE,L,hI⟩:=xz (dW h3);generalize(G B P N M).1=g at *;obtain⟨o,k,bf,s⟩:=g;simp only at *;subst h0;subst h1;exact QB (sj h) (qB AE hI)
def lpA{S:Nat->Type}(M:TM S):Option Prop:=match M.o with
 |.out e=>(match M.k with
  |.lp _ ok::_=>(match e with
   |.normal=>none
   |_=>some ok)
  |_=>none)
 |_=>none
def aaN{S:Nat->Type}(M:TM S):TM S:=⟨M.o,M.k.tail,M.bf,M.s⟩
theorem tO{out:σ⊕τ}{t:τ}(h:some (.inr t)=some out)(k:RT B P N ρ Q (aaN (G B P N M).1))(hx:(lpA (G B P N M).1,(G B P N M).2.map Prod.fst)=(some (∃r,out=.inr r),(G B P N M).2.map Prod.snd):=by kernel_rfl):RT B P N ρ Q M:=by
 simp only[Prod.mk.injEq]at hx;obtain⟨h0,h1⟩:=hx;refine sd h1 ⟨?_⟩;have k:=k.v;generalize(G B P N M).1=g at *;obtain⟨o,fr,bf,s⟩:=g;unfold lpA at h0;split at h0
 ·rename_i e ho;simp only at ho;subst ho;split at h0
  ·rename_i nx ok k' hk;simp only at hk;subst hk;split at h0
   ·cases h0
   ·rename_i fG;have e1:=Option.some.inj h0;have ho:ok:=by grind
    have k:vE P N ρ Q ⟨.out e,k',eI B bf,db B s⟩:=k;show vE P N ρ Q ⟨.out e,.lp nx ok::k',eI B bf,db B s⟩;intro G w a hn;refine im.of (k G w a hn) λbf s hq=>?_;cases e with
    |normal=>grind
    |exit _=>exact⟨ho,hq⟩
    |goto _=>exact⟨ho,hq⟩
    |ret=>exact⟨ho,hq⟩
    |panic _=>exact⟨ho,hq⟩
    |outgrown=>exact⟨ho,hq⟩
  ·cases h0
 ·cases h0
theorem oJ{out:σ⊕τ}{t LP:τ}(h:some (.inr t)=some out)(e: ∀r,out=.inr r->r=LP):LP=t:=(e _ (sj h)).symm
theorem oE{J β:Type}{r x:β}{out:σ⊕(J⊕β)}{LP:J⊕β}{K:J->Option β}(h:some (.inr (.inr x))=some out)(e: ∀r,out=.inr r->r=LP)(h2:Sum.elim K some LP=some r):some x=some r:=by grind
end
def Bv(P:Program)(f:FuncId):Option (Nat×List ResultVar×Code):=(P.funcs[f]?).bind λfn=>fn.body.map λb=>(fn.ntmps,fn.results.toList,b)
def nF(P:Program)(f:FuncId):Nat:=match Bv P f with
 |some (n,_,_)=>n
 |none=>0
def rF(P:Program)(f:FuncId):List ResultVar:=match Bv P f with
 |some (_,r,_)=>r
 |none=>[]
def cF(P:Program)(f:FuncId):Code:=match Bv P f with
 |some (_,_,c)=>c
 |none=>.skip
def KS{S:Nat->Type}:List (TV S)->Nat->dB S
 | [],_=>[]
 |x::r,k=>(k,x)::KS r (k+1)
theorem CT{l:List (TV B.S)}{k:Nat}:eI B (KS l k)=pc (dY B.E l) k:=by
 induction l generalizing k with
 |nil=>rfl
 |cons x r ih=>simp only[KS,eI,dY,pc,ih]
def UE:AV->AV
 |.agg l=>.agg (l.map QU)
 |x=>QU x
def dT:AV->AV
 |.dS l=>.dS (l.map UE)
 |x=>UE x
theorem N2{G:bS}{x:AV}{v:Value}(h:V G x v):V G (UE x) v:=by
 cases x<;>first|exact Hi h|skip
 cases h with
 |agg cs vs dK h=>exact .agg _ vs (by grind) λi x y hx hy=>(by
  grind [Hi])
theorem Sv{G:bS}{x:AV}{v:Value}(h:V G x v):V G (dT x) v:=by
 cases x<;>first|exact N2 h|skip
 cases h with
 |dS cs vs dK h=>exact .dS _ vs (by grind) λi x y hx hy=>(by
  grind [N2])
theorem KT{f:FuncId}{args:List AV}{x:AV}(ha:eO args=true)(hx:x.dn=true)(h:dw P f args St.nil λy s=>dT (Go.Am.Mx y s).1=x):nf P f args x:=
 R4 ha hx (dw.turn (h.mono λy s hq=>⟨_,_,λG w v hs hv=>by
  obtain⟨G',h1,h2,h3⟩:=yn s y G w v hs hv;exact⟨G',h1,h2,Sv h3⟩,hq⟩))
def KX(B:iU)(X:α->TV B.S)(a:α):AV->St->Prop:=λy s=>dT (Mx y s).1=(X a).er B.E
theorem tf{f:FuncId}{args:List (TV B.S)}{X:α->TV B.S}{a:α}(h:RT B P (nF P f) none (DP P (rF P f).toArray (KX B X a)) ⟨.run (cF P f),[],KS args 0,⟨[],0⟩⟩)
  (hx:((Bv P f).isSome&&Nat.ble args.length (nF P f)&&Dy args&&(X a).cl)=true:=by kernel_rfl):cH B P f args X a:=by
 simp only[eU]at hx;obtain⟨⟨⟨h1,h2⟩,h3⟩,h4⟩:=hx;refine KT (nu h3) (za h4) ?_;have h:=h.v;obtain⟨⟨n,rs,c⟩,hb⟩:=Ar.1 h1;have e1:nF P f=n:=by simp[nF,hb]
 have e2:rF P f=rs:=by simp[rF,hb]
 have e3:cF P f=c:=by simp[cF,hb]
 rw[e1,e2,e3]at h;rw[e1]at h2;refine IH (s:=St.nil) n rs c _ hb CT.symm (by rw[iw];exact h2) rfl h
def N3(B:iU)(P:Program)(bf:dB B.S)(s:dH B.S):List ResultVar->Option (List (TV B.S))
 | []=>some []
 |r::l=>match(match r with
  |.tmp t=>bn bf t
  |.cell t ty=>match bn bf t with
   |some p=>(match IK B P ty p s with
    |.ok v _=>some v
    |_=>none)
   |none=>none)with
  |some x=>match N3 B P bf s l with
   |some xs=>some (x::xs)
   |none=>none
  |none=>none
def wG{S:Nat->Type}(x:TV S)(s:dH S):TV S×dH S×iV:=match x with
 |.a (.ms id st n)=>(match bn s.heap id with
  |some (.ls _ c xs m _)=>bif Nat.beq st 0&&ia s.heap id then(.l false c xs,⟨dZ s.heap id,s.bN⟩,[(.mp 0 0 n,.mp 0 0 m)])else(x,s,[])
  |some (.cu _ l)=>bif Nat.beq st 0&&ia s.heap id then(.s false l,⟨dZ s.heap id,s.bN⟩,[(.mp 0 0 n,.mp 0 0 l.length)])else(x,s,[])
  |_=>(x,s,[]))
 |x=>(x,s,[])
def wH{S:Nat->Type}(f:TV S->dH S->TV S×dH S×iV):List (TV S)->dH S->List (TV S)×dH S×iV
 | [],s=>([],s,[])
 |x::r,s=>match f x s with
  |(y,s1,q)=>match wH f r s1 with
   |(l,s2,q2)=>(y::l,s2,q++q2)
def uu{S:Nat->Type}(x:TV S)(s:dH S):TV S×dH S×iV:=match x with
 |.agg l=>(match wH wG l s with
  |(l,s,q)=>(.agg l,s,q))
 |x=>wG x s
def Ez{S:Nat->Type}(x:TV S)(s:dH S):TV S×dH S×iV:=match x with
 |.dS l=>(match wH uu l s with
  |(l,s,q)=>(.dS l,s,q))
 |x=>uu x s
def Ra(B:iU)(f:TV B.S->dH B.S->TV B.S×dH B.S×iV)(g:AV->St->AV×St):Prop:= ∀x s,(f x s).1.cl=true->(∀p∈(f x s).2.2,p.1=p.2)->g (x.er B.E) (db B s)=((f x s).1.er B.E,db B (f x s).2.1)
theorem CU{x:AV}{s:St}(h:x.dn=true):tX x s=(x,s):=by
 cases x<;>first|rfl|cases h
theorem EA:Ra B wG tX:=by
 intro x s hc hq;unfold wG at hc hq |-
 split at hc
 ·rename_i id st n;split at hc
  ·rename_i cq c xs m hm hg;cases hb:Nat.beq st 0&&ia s.heap id with
   |false=>simp[hb,TV.cl,AV.dn]at hc
   |true=>
    simp only[hg,hb,cP]at hq |-
    simp only[eU]at hb;have e:=jU hb.1;subst e;have:=hq _ (by simp:((AV.mp 0 0 n),(AV.mp 0 0 m))∈_);simp only[AV.mp.injEq]at this;have hn:=this.2.2;subst hn;subst hm;simp only[TV.er,tX,dl hg,fT];rw[ez (by simp)];simp[lS hb.2,sq];rfl
  ·rename_i cq l hg;cases hb:Nat.beq st 0&&ia s.heap id with
   |false=>simp[hb,TV.cl,AV.dn]at hc
   |true=>
    simp only[hg,hb,cP]at hq |-
    simp only[eU]at hb;have e:=jU hb.1;subst e;have:=hq _ (by simp:((AV.mp 0 0 n),(AV.mp 0 0 l.length))∈_);simp only[AV.mp.injEq]at this;have hn:=this.2.2;subst hn;simp only[TV.er,tX,dl hg,fT];rw[ez (by simp[iw])];simp[lS hb.2,sq,iw];rfl
  ·simp[TV.cl,AV.dn]at hc
 grind [CU,za]
theorem zd{f:TV B.S->dH B.S->TV B.S×dH B.S×iV}{g:AV->St->AV×St}(h:Ra B f g): ∀(l:List (TV B.S))(s:dH B.S),Dy (wH f l s).1=true->(∀p∈(wH f l s).2.2,p.1=p.2)->nC g (dY B.E l) (db B s)=(dY B.E (wH f l s).1,db B (wH f l s).2.1)
 | [],s,_,_=>rfl
 |x::r,s,hc,hq=>by
  simp only[wH]at hc hq |-
  simp only[Dy,eU]at hc;have h1:=h x s hc.1 (λp hp=>hq p (Ig _ hp));have h2:=zd h r _ hc.2 (λp hp=>hq p (Gh _ hp));simp only[dY,nC,h1,h2]
theorem EB:Ra B uu tY:=by
 intro x s hc hq;rcases Classical.em (∃l,x=.agg l)with⟨l,rfl⟩|hx
 ·have:=zd EA l s hc hq;simp only[TV.er,tY,this,uu]
 ·have e:uu x s=wG x s:=by
    unfold uu
    grind
  rw[e]at hc hq |-
  have h0:=EA x s hc hq;have:tY (x.er B.E) (db B s)=tX (x.er B.E) (db B s)\/ ∃l,x.er B.E=.agg l:=by
    generalize x.er B.E=y;cases y<;>first|exact .inl rfl|grind
  rcases this with h|⟨l,hl⟩
  · grind
  ·
    have F6: ∀(l:List AV)(s:St),eO l=true->nC tX l s=(l,s):=by
     intro l
     induction l with
     |nil=>intro s _;rfl
     |cons a r ih=>
      intro s hc;simp only[eO,eU]at hc;simp only[nC,CU hc.1,ih s hc.2]
    have he:wG x s=(x,s,[]):=by
     unfold wG;split
     ·rename_i id st n;simp[TV.er]at hl
     ·rfl
    rw[he]at hc |-
    have hc:=za hc;rw[hl]at hc |-
    simp only[tY,F6 l _ hc]
theorem I6:Ra B Ez Mx:=by
 intro x s hc hq;rcases Classical.em (∃l,x=.dS l)with⟨l,rfl⟩|hx
 ·have:=zd EB l s hc hq;simp only[TV.er,Mx,this,Ez]
 ·have e:Ez x s=uu x s:=by
   unfold Ez
   grind
  rw[e]at hc hq |-
  have h0:=EB x s hc hq;have:Mx (x.er B.E) (db B s)=tY (x.er B.E) (db B s)\/ ∃l,x.er B.E=.dS l:=by
   generalize x.er B.E=y;cases y<;>first|exact .inl rfl|grind
  rcases this with h|⟨l,hl⟩
  ·grind
  ·have aaO: ∀(x:AV)(s:St),x.dn=true->tY x s=(x,s):=by
    intro x s hc;cases x<;>first|rfl|(cases hc;done)|skip
    rename_i l;have: ∀(l:List AV)(s:St),eO l=true->nC tX l s=(l,s):=by
     intro l
     induction l with
     |nil=>intro s _;rfl
     |cons a r ih=>
      intro s hc;simp only[eO,eU]at hc;simp only[nC,CU hc.1,ih s hc.2]
    simp only[tY,this l s hc]
   have F6: ∀(l:List AV)(s:St),eO l=true->nC tY l s=(l,s):=by
    intro l
    induction l with
    |nil=>intro s _;rfl
    |cons a r ih=>
     intro s hc;simp only[eO,eU]at hc;simp only[nC,aaO a s hc.1,ih s hc.2]
   have he:uu x s=(x,s,[]):=by
    unfold uu;split
    ·simp[TV.er]at hl
    ·unfold wG;split
     ·simp[TV.er]at hl
     ·rfl
   rw[he]at hc |-
   have hc:=za hc;rw[hl]at hc |-
   simp only[Mx,F6 l _ hc]
theorem CV{bf:dB B.S}{s:dH B.S}: ∀{rs:List ResultVar}{l:List (TV B.S)},N3 B P bf s rs=some l->wo P (eI B bf) (db B s) rs=some (dY B.E l)
 | [],l,h=>by cases h;rfl
 |r::rs,l,h=>by
  unfold N3 at h;split at h
  ·rename_i x hx;split at h
   ·rename_i xs hxs;cases h;have h1:Mu P (eI B bf) (db B s) r=some (x.er B.E):=by
     split at hx
     ·simp only[Mu,lR,hx,iJ]
     ·rename_i t ty;split at hx
      ·rename_i p hp;split at hx
       ·rename_i v s' hv;cases hx;obtain⟨v',e,e1,e2⟩:=Eo (B:=B) (P:=P) (s:=s) (t:=ty) (p:=p) (λa b=>a=x/\b=s') (by rw[hv];exact⟨rfl,rfl⟩);subst e1;simp only[Mu,lR,hp,iJ,e]
       ·cases hx
      ·cases hx
    simp only[wo,h1,CV hxs,dY]
   ·cases h
  ·cases h
def PO{S:Nat->Type}:List (Nat×TB S)->List (Nat×TB S)
 | []=>[]
 |(i,b)::r=>match b with
  |.raw .gq=>dZ (PO r) i
  |b=>(i,b)::PO r
def Ge{S:Nat->Type}(s:dH S):dH S:=⟨PO s.heap,s.bN⟩
theorem CW: ∀{h:List (Nat×TB B.S)}{id:Nat}{b:TB B.S},bn (PO h) id=some b->bn h id=some b
 | [],id,b,h=>h
 |(i,c)::r,id,b,h=>by
  unfold PO at h;split at h
  ·rw[fO]at h;split at h
   ·cases h
   ·rename_i fG;simp only[cG];rw[fN fG];exact CW h
  ·simp only[cG]at h |-
   split at h
   ·rename_i e;rw[ez e];exact h
   ·rename_i e;rw[fN e];exact CW h
theorem CX{β:Type}{p:Nat×β}{i:Nat}: ∀{l:List (Nat×β)},p∈dZ l i->p∈l
 | [],h=>h
 |(k,x)::r,h=>by
  simp only[dZ]at h;split at h
  ·exact VK _ (CX h)
  ·simp only[pU]at h |-
   rcases h with h|h
   ·exact .inl h
   ·exact .inr (CX h)
theorem Hq{p:Nat×TB B.S}: ∀{l:List (Nat×TB B.S)},p∈PO l->p∈l
 | [],h=>h
 |(k,x)::r,h=>by
  unfold PO at h;split at h
  ·exact VK _ (Hq (CX h))
  ·simp only[pU]at h |-
   rcases h with h|h
   ·exact .inl h
   ·exact .inr (Hq h)
theorem EC{i:Nat}: ∀{h:List (Nat×TB B.S)},(∀p∈h,gi p.2=true->fV p.1 i=true/\p.1≠i)->ia h i=true
 | [],_=>rfl
 |(k,x)::r,h=>by
  have ih:=EC (i:=i) (h:=r) λp hp=>h p (by simp[hp]);have h0:=h (k,x) (by simp);cases x with
  |fr c cl pre n post=>
   obtain⟨h1,h2⟩:=h0 rfl;simp only[ia,h1,ih,Bool.and_true,Wq,sr];cases hq:Nat.beq k i with
   |false=>rfl
   |true=>exact absurd (jU hq) h2
  |_=>exact ih
theorem Sw: ∀{h:List (Nat×TB B.S)},pP h=true->mN B (PO h)=mN B h
 | [],_=>rfl
 |(k,x)::r,hw=>by
  simp only[pP,eU]at hw;have ih:=Sw hw.2;unfold PO;split
  ·have hd:ia (PO r) k=true:=EC λp hp hf=>by
    have:=qc.1 hw.1 p (Hq hp);simp only[mz,hf,cP,eU,sr]at this;exact⟨this.2.1,λe=>AH this.2.2 e.symm⟩
   rw[(IR hd).1,ih];rfl
  ·simp only[mN,ih]
def KU(B:iU)(h:List (Nat×TB B.S)):Bool:=h.all λp=>!(qu (fT B p.2))
theorem xA{a b:List (Nat×gM)}:nj (a++b)=(nj a&&nj b):=by
 induction a with
 |nil=>rfl
 |cons p r ih=>obtain⟨k,x⟩:=p;simp only[Al,nj,ih,Bool.and_assoc]
theorem Xw{l:List (ZB B.S)}: ∀{i:Nat},nj (jT B i l)=true:=by
 induction l with
 |nil=>intro i;rfl
 |cons z r ih=>intro i;simp only[jT,nj,ih,Nc,qu];rfl
theorem Xx{c w:Nat}{l:List (B.S c)}: ∀{i:Nat},nj (gW B c w i l)=true:=by
 induction l with
 |nil=>intro i;rfl
 |cons y r ih=>
  intro i;unfold gW;cases Nat.blt i cO
  ·rfl
  simp_all[xA,Xw]
theorem xC{h:List (Nat×TB B.S)}{n:Nat}(hd:KU B h=true):nj (db B ⟨h,n⟩).heap=true:=by
 simp only[db,xA,eU];constructor
 ·induction h with
  |nil=>rfl
  |cons p r ih=>
   obtain⟨k,x⟩:=p;simp only[KU,VJ,eU]at hd;simp only[kS,nj,hd.1,ih (by simpa[KU]using hd.2)];rfl
 ·clear hd
  induction h with
  |nil=>rfl
  |cons p r ih=>
   obtain⟨k,x⟩:=p;simp only[mN,xA,ih,Bool.and_true];unfold eP;split
   ·rename_i c cl pre m post;cases cl
    all_goals simp_all[xA,Xx]
   ·rfl
def Bw(B:iU)(s:dH B.S):Bool:=pP s.heap&&KU B (Ge s).heap
theorem ED{s:dH B.S}(h:Bw B s=true):Gw (db B (Ge s)) (db B s):=by
 simp only[Bw,eU]at h;obtain⟨hw,hd⟩:=h;refine⟨λid b hg=>⟨?_,λe=>mT (xC (n:=s.bN) hd) id (by rw[<-e];exact hg)⟩,fw _⟩;simp only[db,Ge,Sw hw]at hg |-
 grind [cX,gv,Option.map_eq_some_iff,CW,yW,IX]
def N4(B:iU)(P:Program)(rs:List ResultVar)(M:TM B.S):Option (AV×iV):=match M.o with
 |.out e=>(match M.k with
  | []=>bif (match e with|.ret=>true|.normal=>true|_=>false)&&Bw B M.s then(match N3 B P M.bf M.s rs with
   |some l=>(match Ez (match l with| [x]=>x|l=>.dS l) (Ge M.s)with
    |(v,_,q)=>bif v.cl then some (dT (v.er B.E),q)else none)
   |none=>none)else none
  |_=>none)
 |_=>none
def aaP(o:Option (AV×iV)):Option AV:=o.map (·.1)
def Xy(o:Option (AV×iV)):iV:=match o with
 |some (_,q)=>q
 |none=>[]
theorem b8{rs:List ResultVar}{X:α->TV B.S}{x a:α}(h:some x=some a)(hx:(aaP (N4 B P rs (G B P N M).1),(Xy (N4 B P rs (G B P N M).1)).map Prod.fst,(G B P N M).2.map Prod.fst)=
   (some ((X x).er B.E),(Xy (N4 B P rs (G B P N M).1)).map Prod.snd,(G B P N M).2.map Prod.snd):=by kernel_rfl):RT B P N none (DP P rs.toArray (KX B X a)) M:=by
 cases h;simp only[Prod.mk.injEq]at hx;obtain⟨h1,h2,h3⟩:=hx;refine sd h3 ⟨?_⟩;have h2:=dW h2;generalize(G B P N M).1=g at *;obtain⟨o,k,bf,s⟩:=g;cases hr:N4 B P rs ⟨o,k,bf,s⟩with
 |none=>rw[hr]at h1;cases h1
 |some p=>
  obtain⟨v,q⟩:=p;rw[hr]at h1 h2;have Qk:v=(X x).er B.E:=Option.some.inj h1;have LK: ∀p∈q,p.1=p.2:=h2;clear h1 h2;unfold N4 at hr;split at hr
  ·rename_i e ho;simp only at ho;subst ho;split at hr
   ·rename_i hk;simp only at hk;subst hk;generalize hq0:(match e with|.ret=>true|.normal=>true|_=>false)=b0 at hr;cases hq:(b0&&Bw B s)with
    |false=>grind
    |true=>
     simp only[hq,cP]at hr;simp only[eU]at hq;have he:e=.ret\/e=.normal:=by
      grind
     split at hr
     ·rename_i l hl;have hl:=CV hl;generalize hy:(match l with| [x]=>x|l=>TV.dS l)=y at hr;have Hr:kO P rs.toArray (eI B bf) (db B s)=some (y.er B.E):=by
       unfold kO;simp only[hl];subst hy;cases l with
       |nil=>rfl
       |cons x r=>cases r<;>rfl
      cases hc:(Ez y (Ge s)).1.cl with
      |false=>grind
      |true=>
       simp only[hc,cP]at hr;cases hr;have hf:=I6 (B:=B) y (Ge s) hc LK;have EE:Gw (db B (Ge s)) (db B s):=ED hq.2;have hK:KX B X x (y.er B.E) (db B (Ge s)):=by
        unfold KX;grind
       rcases he with rfl|rfl
       ·exactλG w a hn=>hn.after ⟨_,_,Hr,EE,hK⟩
       ·exactλG w a hn=>hn.after ⟨_,_,Hr,EE,hK⟩
     ·cases hr
   ·cases hr
  ·cases hr
end
end Go.Am
