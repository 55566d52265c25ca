/- The logic AM, U: what an operation gives on typed states is what it gives. -/
import Derived.Test.YtfdnjgoegamonaaGreatDoorAmT
set_option linter.all false
namespace Go.Am
open Go.RowKit
section
variable {B:jg}
theorem lP{bX:dU B.S}{t:Nat}:bJ (eY B bX) t=(bJ bX t).map (TV.er B.E):=by
 induction bX with
 |nil=>rfl
 |cons p r ih=>
  obtain⟨k,x⟩:=p;simp only[eY,cZ];split
  ·rfl
  ·exact ih
theorem xO{bX:dU B.S}{t:Nat}{x:TV B.S}:eY B (eF bX t x)=eF (eY B bX) t (x.er B.E):=by
 induction bX with
 |nil=>rfl
 |cons p r ih=>
  obtain⟨k,y⟩:=p;simp only[eY,ub];split
  ·rfl
  ·simp only[eY,ih]
theorem gi{h:List (Nat×TB B.S)}{i:Nat}:bJ (kP B h) i=(bJ h i).map (fS B):=by
 induction h with
 |nil=>rfl
 |cons p r ih=>
  obtain⟨k,x⟩:=p;simp only[kP,cZ];split
  ·rfl
  ·exact ih
theorem CS{h:List (Nat×TB B.S)}{i:Nat}{x:TB B.S}:kP B (eF h i x)=eF (kP B h) i (fS B x):=by
 induction h with
 |nil=>rfl
 |cons p r ih=>
  obtain⟨k,y⟩:=p;simp only[kP,ub];split
  ·rfl
  ·simp only[kP,ih]
theorem Qb{h:List (Nat×TB B.S)}{i:Nat}:kP B (eN h i)=eN (kP B h) i:=by
 induction h with
 |nil=>rfl
 |cons p r ih=>
  obtain⟨k,y⟩:=p;simp only[kP,eN];split
  ·exact ih
  ·simp only[kP,ih]
theorem dp{β:Type}{a b:List (Nat×β)}{i:Nat}:bJ (a++b) i=match bJ a i with
  |some x=>some x
  |none=>bJ b i:=by
 induction a with
 |nil=>simp[di]
 |cons p r ih=>
  obtain⟨k,x⟩:=p;simp only[yh,cZ,ih];split<;>rfl
theorem EB{β:Type}{a b:List (Nat×β)}{i:Nat}{x y:β}(h:bJ a i=some x):eF (a++b) i y=eF a i y++b:=by
 induction a with
 |nil=>simp[di]at h
 |cons p r ih=>
  obtain⟨k,z⟩:=p;simp only[cZ]at h;simp only[yh,ub];split
  ·rfl
  ·rename_i hk;rw[dY hk]at h;rw[ih h];rfl
theorem ML{β:Type}{a b:List (Nat×β)}{i:Nat}:eN (a++b) i=eN a i++eN b i:=by
 induction a with
 |nil=>simp[eN]
 |cons p r ih=>
  obtain⟨k,z⟩:=p;simp only[yh,eN,ih];split<;>rfl
theorem Ko{β:Type}{a:List (Nat×β)}{i:Nat}(h:bJ a i=none):eN a i=a:=by
 induction a with
 |nil=>rfl
 |cons p r ih=>
  obtain⟨k,z⟩:=p;simp only[cZ]at h;simp only[eN];split
  ·rename_i hk;rw[dP hk]at h;cases h
  ·rename_i hk;rw[dY hk]at h;rw[ih h]
theorem rO{w:Nat}{b:TB B.S}(h:gm b=false):eX B w b=[]:=by
 cases b<;>first|rfl|cases h
theorem CT{h:List (Nat×TB B.S)}{c n:Nat}{b:TB B.S}(hb:gm b=false):dA B ⟨(c,b)::h,n⟩=⟨(c,fS B b)::(dA B ⟨h,n⟩).heap,n⟩:=by
 simp only[dA,kP,mN,rO hb,sA,yh]
theorem dE{s:dZ B.S}{id:Nat}{b:TB B.S}(h:bJ s.heap id=some b):bJ (dA B s).heap id=some (fS B b):=by
 simp only[dA];rw[dp,gi,h];rfl
theorem Qc{h:List (Nat×TB B.S)}{i:Nat}{b b0:TB B.S}(hg:bJ h i=some b0)(h0:gm b0=false)(hb:gm b=false):mN B (eF h i b)=mN B h:=by
 induction h with
 |nil=>simp[di]at hg
 |cons p r ih=>
  obtain⟨k,z⟩:=p;simp only[cZ]at hg;simp only[ub];split
  ·rename_i hk;rw[dP hk]at hg;cases hg;simp only[mN,rO h0,rO hb]
  ·rename_i hk;rw[dY hk]at hg;simp only[mN,ih hg]
theorem rP{s:dZ B.S}{i n:Nat}{b b0:TB B.S}(hg:bJ s.heap i=some b0)(h0:gm b0=false)(hb:gm b=false):dA B ⟨eF s.heap i b,n⟩=⟨eF (dA B s).heap i (fS B b),n⟩:=by
 simp only[dA,CS,Qc hg h0 hb];rw[EB (x:=fS B b0) (by rw[gi,hg];rfl)]
theorem uu{l:List (ZB B.S)}{i id:Nat}{b:gU}(h:bJ (j0 B i l) id=some b):i<=id/\id<i+l.length/\ ∃z,l[id-i]? =some z/\b=MC (Gk B.E z):=by
 induction l generalizing i with
 |nil=>simp[j0,di]at h
 |cons z r ih=>
  simp only[j0,cZ]at h;split at h
  ·rename_i e;cases h;subst e;exact⟨eD _,by simp,z,by simp,rfl⟩
  ·rename_i eU;obtain⟨h1,h2,y,h3,h4⟩:=ih h;refine⟨by omega,by simp only[oC];omega,y,?_,h4⟩;rw[show id-i=(id-(i+1))+1 from by omega];simpa using h3
theorem uv{c w:Nat}: ∀{l:List (B.S c)}{i id:Nat}{b:gU},bJ (gy B c w i l) id=some b-> ∃j y,i<=j/\j<cU/\l[j-i]? =some y/\bJ (j0 B (w+1+B.K c*j) (B.Z c (w+1+B.K c*j) y)) id=some b
 | [],i,id,b,h=>by simp[gy,di]at h
 |y::r,i,id,b,h=>by
  unfold gy at h;cases hb:Nat.blt i cU with
  |false=>rw[hb]at h;simp[di]at h
  |true=>
   rw[hb]at h;simp only[dt]at h;rw[dp]at h;simp only[ru]at hb;split at h
   ·rename_i x hx;cases h;exact⟨i,y,eD _,hb,by simp,hx⟩
   ·obtain⟨j,z,h1,h2,h3,h4⟩:=uv h;exact⟨j,z,by omega,h2,by rw[show j-i=(j-(i+1))+1 from by omega];simpa using h3,h4⟩
theorem pQ{c w:Nat}{l:List (B.S c)}{i id:Nat}{b:gU}(h:bJ (gy B c w i l) id=some b):gb w id=false:=by
 obtain⟨j,y,h1,h2,h3,h4⟩:=uv h;obtain⟨g1,g2,_⟩:=uu h4;rw[(B.hF c).hz]at g2;have hk:=(B.hF c).hk;have:B.K c*j<=4*4095:=Nat.mul_le_mul hk (by unfold cU at h2;omega);unfold gb sH;rw[JQ];constructor
 ·cases hq:Nat.ble id w with
  |false=>rfl
  |true=>have:=tR hq;omega
 ·cases hq:Nat.ble (w+20000) id with
  |false=>rfl
  |true=>have:=tR hq;omega
theorem fh{w id:Nat}{x:TB B.S}{b:gU}(h:bJ (eX B w x) id=some b):gm x=true/\gb w id=false:=by
 unfold eX at h;split at h
 ·rename_i c cl pre n post;refine⟨rfl,?_⟩;rw[dp]at h;split at h
  ·rename_i y hy;cases cl with
   |true=>simp[di]at hy
   |false=>exact pQ hy
  ·exact pQ h
 ·simp[di]at h
theorem IM{i:Nat}: ∀{h:List (Nat×TB B.S)},iJ h i=true->mN B (eN h i)=mN B h/\bJ (mN B h) i=none
 | [],_=>by simp[eN,mN,di]
 |(k,x)::r,h=>by
  have key: ∀{y:TB B.S},gm y=false->iJ r i=true->mN B (eN ((k,y)::r) i)=mN B ((k,y)::r)/\bJ (mN B ((k,y)::r)) i=none:=λ{y}hy hr=>by
   obtain⟨h1,h2⟩:=IM hr;refine⟨?_,by simp only[mN,rO hy,sA];exact h2⟩;simp only[eN];split
   ·simp only[mN,rO hy,sA];exact h1
   ·simp only[mN,h1]
  cases x with
  |fr c cl pre n post=>
   simp only[iJ,fE,qn]at h;obtain⟨⟨h1,h2⟩,h3⟩:=h;obtain⟨g1,g2⟩:=IM h3;have eU:k≠i:=λe=>by subst e;rw[show Nat.beq k k=true from O0 k]at h2;cases h2
   refine⟨by simp only[eN,dY eU,mN,g1],?_⟩;simp only[mN];rw[dp];split
   ·rename_i b hb;have:=(fh hb).2;rw[this]at h1;cases h1
   ·exact g2
  |cW n l=>exact key (y:=.cW n l) rfl h
  |ls n c x m hm=>exact key (y:=.ls n c x m hm) rfl h
  |raw b=>exact key (y:=.raw b) rfl h
  |rows n c x v m=>exact key (y:=.rows n c x v m) rfl h
  |lp c e st pd=>exact key (y:=.lp c e st pd) rfl h
  |fm n c w cl pre lh post=>exact key (y:=.fm n c w cl pre lh post) rfl h
theorem mO{s:dZ B.S}{i n:Nat}(h:iJ s.heap i=true):dA B ⟨eN s.heap i,n⟩=⟨eN (dA B s).heap i,n⟩:=by
 obtain⟨h1,h2⟩:=IM h;simp only[dA,ML,Qb,h1,Ko h2]
theorem fP(x:TV B.S):(x.norm B).er B.E=x.er B.E:=by
 cases x<;>first|rfl|exact B.hX _ _
theorem yW(x:TV B.S):(x.norm B).P6=false:=by
 cases x<;>first|rfl|exact B.hv _ _
theorem IP{S:Nat->Type}{E:(c:Nat)->S c->AV}(l:List AV):eB E (l.map .a)=l:=by
 induction l with
 |nil=>rfl
 |cons x r ih=>simp only[wy,eB,TV.er,ih]
theorem BF{S:Nat->Type}{E:(c:Nat)->S c->AV}{x:TV S}(h:x.P6=false):eB E (CM x)=(x.er E).cells:=by
 cases x<;>simp only[TV.P6]at h<;>first|(cases h;done)|simp only[CM,TV.er,eB,AV.cells,IP]
theorem ic(x:TV B.S):eB B.E (eh B x)=(x.er B.E).cells:=by
 rw[eh,BF (yW x),fP]
theorem gH(x:TV B.S):(eh B x).length=(x.er B.E).cells.length:=by
 rw[<-ic,eV,nE]
theorem xP{S:Nat->Type}{E:(c:Nat)->S c->AV}(l:List (TV S))(i:Nat):(eB E l)[i]? =l[i]?.map (TV.er E):=by rw[eV,sW]
theorem kD{P:Program}{t:TypeId}{cs:List (TV B.S)}:qs P t (eB B.E cs)=(od B P t cs).map (TV.er B.E):=by
 unfold qs od;cases LF P t with
 |none=>rfl
 |some b=>
  cases b with
  |true=>
   simp only;cases dF P t with
   |none=>rfl
   |some n=>
    simp only[eV,nE];cases h:Nat.ble n cs.length with
    |true=>
     rw[dP (tR h)];simp[TV.er,eV,Ly]
    |false=>
     rw[dY (λe=>by rw[VY e]at h;cases h)];rfl
  |false=>cases cs<;>rfl
theorem MM{S:Nat->Type}{E:(c:Nat)->S c->AV}{x:TV S}(h:qg x=true):(x.er E).dn=true:=by
 cases x<;>simp only[qg]at h<;>first|exact h|rfl|cases h
theorem MN{S:Nat->Type}{E:(c:Nat)->S c->AV}{l:List (TV S)}(h:l.all qg=true):(eB E l).all AV.dn=true:=by
 rw[eV,List.all_map];rw[pA]at h |-
 exactλx hx=>MM (h x hx)
theorem np{x:TV B.S}(h:(eh B x).all qg=true):(x.er B.E).cells.all AV.dn=true:=by rw[<-ic];exact MN h
theorem CU{S:Nat->Type}{E:(c:Nat)->S c->AV}{x:TV S}(hv:x.P6=false)(h:CN x=true): ∃l,x.er E=.agg l:=by
 cases x<;>simp only[CN]at h<;>first|(cases h;done)|skip
 ·rename_i y;cases y<;>simp only[AV.isAgg]at h<;>first|(cases h;done)|exact⟨_,rfl⟩
 ·exact⟨_,rfl⟩
theorem Qd{S:Nat->Type}{E:(c:Nat)->S c->AV}{x:TV S}(hv:x.P6=false)(h:CN x=false): ∀l,x.er E≠ .agg l:=by
 intro l e;cases x<;>simp only[CN,TV.er]at h e<;>first|(cases h;done)|(cases e;done)|skip
 ·subst e;cases h
 ·cases hv
theorem rQ{e:TV B.S}{cs:List (TV B.S)}:(rM B e cs).er B.E=qt (e.er B.E) (eB B.E cs):=by
 unfold rM;rw[<-fP e];cases h:CN (e.norm B)with
 |true=>
  obtain⟨l,hl⟩:=CU (E:=B.E) (yW e) h;rw[hl];rfl
 |false=>
  have hn:=Qd (E:=B.E) (yW e) h;simp only[dD];generalize(e.norm B).er B.E=u at hn;cases u<;>first|exact absurd rfl (hn _)|(cases cs<;>rfl)
theorem oU{S:Nat->Type}{E:(c:Nat)->S c->AV}{cs new:List (TV S)}{off:Nat}:eB E (pO cs off new)=jL (eB E cs) off (eB E new):=by
 simp only[pO,jL,eV,Cf,Ly,F9,nE]
theorem eL{bX:dU B.S}{x:Operand}:oper (eY B bX) x=(fG bX x).map (TV.er B.E):=by
 cases x<;>simp only[oper,fG]
 ·exact lP
 ·cases ofValue _<;>rfl
 ·rfl
 ·rfl
theorem lD{bX:dU B.S}: ∀{l:List Operand},opers (eY B bX) l=(pP bX l).map (eB B.E)
 | []=>rfl
 |x::r=>by
  simp only[opers,pP,eL,lD (l:=r)];cases fG bX x with
  |none=>rfl
  |some v=>cases pP bX r<;>rfl
def li(B:jg)(tr:TR B.S)(o:Option AV)(s:dZ B.S):Prop:= ∀K,tr.wp K-> ∃v,o=some (v.er B.E)/\K v s
def mw(B:jg)(tr:TR B.S)(o:Option (AV×St)):Prop:= ∀K,tr.wp K-> ∃v s',o=some (v.er B.E,dA B s')/\K v s'
variable {P:Program} {s:dZ B.S}
theorem li.sO{o:Option (TV B.S)}{o':Option AV}(h:o'=o.map (TV.er B.E)):li B (sO o s) o' s:=by
 intro K hK;cases o with
 |none=>exact hK.elim
 |some v=>exact⟨v,h,hK⟩
theorem li.toS{tr:TR B.S}{o:Option AV}(h:li B tr o s):mw B tr (gE o (dA B s)):=by
 intro K hK;obtain⟨v,rfl,hk⟩:=h K hK;exact⟨v,s,rfl,hk⟩
theorem li.no{o:Option AV}:li B .no o s:=λ_ h=>h.elim
theorem mw.no{o:Option (AV×St)}:mw B .no o:=λ_ h=>h.elim
theorem li.ok{v:TV B.S}{o:Option AV}(h:o=some (v.er B.E)):li B (.ok v s) o s:=λ_ hk=>⟨v,h,hk⟩
theorem mw.ok{v:TV B.S}{s':dZ B.S}{o:Option (AV×St)}(h:o=some (v.er B.E,dA B s')):mw B (.ok v s') o:=λ_ hk=>⟨v,s',h,hk⟩
theorem im{S:Nat->Type}{E:(c:Nat)->S c->AV}(l:List (TV S)):(eB E l).length=l.length:=by rw[eV,nE]
theorem MO{α:Type}{f:α->AV}{x:List α}{w:AV}{r:List AV}:(x.map f++([w]++r))[x.length]? =some w:=by
 rw[qb (by simp)];simp
theorem Tr{α:Type}{f:α->AV}{x:List α}{w y:AV}{r:List AV}:(x.map f++([w]++r)).set x.length y=x.map f++([y]++r):=by
 have e:x.length=(x.map f).length:=by simp
 rw[e,List.set_append];simp
theorem Kp{i n:Nat}(h:i<n):Nat.blt i n=true:=by rw[ru];exact h
theorem aau{i n:Nat}(h:Nat.blt i n=true):i<n:=by rw[ru]at h;exact h
theorem EC{c w:Nat}: ∀{l:List (B.S c)}{i:Nat},i+l.length<=cU->(iE B c w i l).length=l.length
 | [],i,_=>rfl
 |y::r,i,h=>by
  simp only[oC]at h;simp only[iE,Kp (show i<cU by omega),dt,oC,EC (l:=r) (i:=i+1) (by omega)]
theorem qQ{c w:Nat}{cl:Bool}{pre:List (B.S c)}(h:pre.length<=cU):(bif cl then pre.map (B.E c)else iE B c w 0 pre).length=pre.length:=by
 cases cl
 ·exact EC (by omega)
 ·simp
theorem MP{c w:Nat}{cl:Bool}{pre:List (B.S c)}{x:AV}{r:List AV}(h:pre.length<=cU):((bif cl then pre.map (B.E c)else iE B c w 0 pre)++([x]++r))[pre.length]? =some x:=by
 rw[qb (by rw[qQ h];exact eD _),qQ h];simp
theorem Ts{c w:Nat}{cl:Bool}{pre:List (B.S c)}{x y:AV}{r:List AV}(h:pre.length<=cU):((bif cl then pre.map (B.E c)else iE B c w 0 pre)++([x]++r)).set pre.length y=(bif cl then pre.map (B.E c)else iE B c w 0 pre)++([y]++r):=by
 have e:pre.length=(bif cl then pre.map (B.E c)else iE B c w 0 pre).length:=(qQ h).symm;rw[e,List.set_append];simp
theorem ED{t:TypeId}{p:TV B.S}:li B (IH B P t p s) (qd P t (p.er B.E) (dA B s)) s:=by
 unfold IH;rw[<-fP p];generalize p.norm B=q;split
 ·refine .sO ?_;simp only[TV.er,qd,nJ,kD]
 ·rename_i p;split
  ·refine .sO ?_;simp only[TV.er,qd,nJ,<-kD,IP]
  ·rename_i id el off;simp only[TV.er,qd,nJ];split
   ·rename_i n l hg;simp only[dE hg,gX,fS,xP];split
    ·rename_i e he;refine .sO ?_;simp only[he,gX,<-kD,eV,F9];rw[<-eV,ic]
    ·exact .no
   ·rename_i n c x _ _ hg;rintro K ⟨y,hy,hK⟩;simp only[dE hg,gX,fS,sW,hy];refine li.sO (s:=s) ?_ K hK;simp only[<-kD,eV,F9];rw[<-eV,ic];rfl
   ·rename_i n c x v m hg;split
    ·rename_i w;rintro K ⟨hy,hK⟩;subst hy;simp only[dE hg,gX,fS,eB];rw[MO];refine li.sO (s:=s) ?_ K hK;simp only[<-kD,eV,F9];rw[<-eV,ic]
    ·exact .no
   ·rename_i n c w cl pre lh post hg;split
    ·rename_i w;rintro K ⟨⟨hy,ko⟩,hK⟩;subst hy;simp only[dE hg,gX,fS,eB];rw[MP ko];refine li.sO (s:=s) ?_ K hK;simp only[<-kD,eV,F9];rw[<-eV,ic]
    ·exact .no
   ·exact .no
  ·exact .no
 ·exact .no
theorem mw.dec{c:Nat}{x:TV B.S}{k:B.S c->TR B.S}{o:Option (AV×St)}(h: ∀y,B.E c y=x.er B.E->mw B (k y) o):mw B (Hb B c x k) o:=by
 unfold Hb;split
 ·rintro K ⟨he,hK⟩;exact h _ he K hK
 ·exact .no
theorem mw.cB{p:Prop}{k:TR B.S}{o:Option (AV×St)}(h:p->mw B k o):mw B (.cB p k) o:=λK hK=>h hK.1 K hK.2
theorem li.cB{p:Prop}{k:TR B.S}{o:Option AV}(h:p->li B k o s):li B (.cB p k) o s:=λK hK=>h hK.1 K hK.2
theorem mw.kY{b:Bool}{p:Prop}{k:TR B.S}{o:Option (AV×St)}(hb:b=true->p)(h:p->mw B k o):mw B (kY b p k) o:=by
 unfold Go.Am.kY;cases b with
 |true=>exact h (hb rfl)
 |false=>exact .cB h
theorem li.kY{b:Bool}{p:Prop}{k:TR B.S}{o:Option AV}(hb:b=true->p)(h:p->li B k o s):li B (kY b p k) o s:=by
 unfold Go.Am.kY;cases b with
 |true=>exact h (hb rfl)
 |false=>exact .cB h
theorem mw.lC{st:Bool}{n:Int}{k:TR B.S}{o:Option (AV×St)}(h:0<=n->mw B k o):mw B (lC st n k) o:=by
 unfold Go.Am.lC;cases st with
 |true=>
  cases n with
  |ofNat m=>exact h (Vd m)
  |negSucc m=>exact .no
 |false=>exact .cB h
theorem li.lC{st:Bool}{n:Int}{k:TR B.S}{o:Option AV}(h:0<=n->li B k o s):li B (lC st n k) o s:=by
 unfold Go.Am.lC;cases st with
 |true=>
  cases n with
  |ofNat m=>exact h (Vd m)
  |negSucc m=>exact .no
 |false=>exact .cB h
theorem mw.DU{m n:Nat}{k:TR B.S}{o:Option (AV×St)}(h:m=n->mw B k o):mw B (DU m n k) o:=by
 rintro K ⟨he,hK⟩;cases he;exact h rfl K hK
theorem li.DU{m n:Nat}{k:TR B.S}{o:Option AV}(h:m=n->li B k o s):li B (DU m n k) o s:=by
 rintro K ⟨he,hK⟩;cases he;exact h rfl K hK
theorem mw.nn{c:Nat}{o:Option (AV×St)}: ∀{l:List (TV B.S)}{k:List (B.S c)->TR B.S},(∀ys,ys.map (B.E c)=eB B.E l->ys.length=l.length->mw B (k ys) o)->mw B (nn B c l k) o
 | [],k,h=>h [] rfl rfl
 |x::r,k,h=>by
  unfold Go.Am.nn;exact mw.dec λy hy=>mw.nn λys Ek hl=>h _ (by simp[eB,hy,Ek]) (by simp[hl])
theorem li.nn{c:Nat}{o:Option AV}: ∀{l:List (TV B.S)}{k:List (B.S c)->TR B.S},(∀ys,ys.map (B.E c)=eB B.E l->ys.length=l.length->li B (k ys) o s)->li B (nn B c l k) o s
 | [],k,h=>h [] rfl rfl
 |x::r,k,h=>by
  unfold Go.Am.nn Hb;split
  ·rintro K ⟨he,hK⟩;exact li.nn (λys Ek hl=>h _ (by simp[eB,he,Ek]) (by simp[hl])) K hK
  ·exact .no
theorem mw.bif{c:Bool}{k:TR B.S}{o:Option (AV×St)}(h:c=true->mw B k o):mw B (bif c then k else .no) o:=by
 cases c with
 |true=>exact h rfl
 |false=>exact .no
theorem li.bif{c:Bool}{k:TR B.S}{o:Option AV}(h:c=true->li B k o s):li B (bif c then k else .no) o s:=by
 cases c with
 |true=>exact h rfl
 |false=>exact .no
theorem mw.el{c:Nat}{l:List (B.S c)}{i:Nat}{k:B.S c->TR B.S}{o:Option (AV×St)}(h: ∀y,l[i]? =some y->mw B (k y) o):mw B (.el c l i k) o:=by
 rintro K ⟨y,hy,hK⟩;exact h y hy K hK
theorem li.ix{c:Nat}{l:List (B.S c)}{i:Int}{k:B.S c->TR B.S}{o:Option AV}(h: ∀y,Go.Am.ix l i=some y->li B (k y) o s):li B (.ix c l i k) o s:=by
 rintro K ⟨y,hy,hK⟩;exact h y hy K hK
theorem Qe{S:Nat->Type}{E:(c:Nat)->S c->AV}{l:List (TV S)}{i:Nat}{x:TV S}:eB E (l.set i x)=(eB E l).set i (x.er E):=by rw[eV,eV,List.map_set]
theorem Kq{t:TypeId}{p v:TV B.S}:mw B (Hc B P t p v s) (match ym P t (p.er B.E) (v.er B.E) (dA B s)with
  |some s'=>some (.any,s')
  |none=>none):=by
 unfold Hc;rw[<-fP p];generalize p.norm B=q;split
 case h_2=>exact .no
 rename_i id el off;simp only[TV.er,ym];split
 ·rename_i cN l hg;simp only[dE hg,gX,fS,xP];split
  ·rename_i e he;simp only[he,gX];refine .bif λhc=>.ok ?_;simp only[fE,fD,JP]at hc;obtain⟨⟨h1,h2⟩,h3⟩:=hc;rw[gH]at h1 h2;rw[gH]at h2;rw[dP ⟨h1,h2,np h3⟩];rw[rP hg rfl rfl];simp only[TV.er,fS,Qe,rQ,oU,ic];rfl
  ·exact .no
 ·rename_i cN c x m hm hg;refine .el λy hy=>.bif λhc=>.dec λy' Ee=>?_;simp only[dE hg,gX,fS,sW,hy];simp only[fE,fD,JP]at hc;obtain⟨⟨h1,h2⟩,h3⟩:=hc;rw[gH]at h1 h2;rw[gH]at h2;refine .ok ?_;have h2:off+(v.er B.E).cells.length<=(B.E c y).cells.length:=h2;rw[dP ⟨h1,h2,np h3⟩];rw[rP hg rfl rfl];simp only[TV.er,fS,List.map_set,Ee,rQ,oU,ic];rfl
 ·rename_i cN c x w m hg;split
  ·rename_i e;refine .cB λhl=>.bif λhc=>.ok ?_;subst hl;simp only[dE hg,gX,fS,eB];rw[MO];simp only[fE,fD,JP]at hc;obtain⟨⟨h1,h2⟩,h3⟩:=hc;rw[gH]at h1 h2;rw[gH]at h2;simp only;rw[dP ⟨h1,h2,np h3⟩];rw[rP hg rfl rfl];simp only[TV.er,fS,eB,Tr,rQ,oU,ic];rfl
  ·exact .no
 ·rename_i cN c w cl pre lh post hg;split
  ·rename_i e;refine .cB λhl=>.bif λhc=>.ok ?_;obtain⟨hl,ko⟩:=hl;subst hl;simp only[dE hg,gX,fS,eB];rw[MP ko];simp only[fE,fD,JP]at hc;obtain⟨⟨h1,h2⟩,h3⟩:=hc;rw[gH]at h1 h2;rw[gH]at h2;simp only;rw[dP ⟨h1,h2,np h3⟩];rw[rP hg rfl rfl];simp only[TV.er,fS,eB,Pw,Ts ko,rQ,oU,ic];rfl
  ·exact .no
 ·exact .no
theorem IQ{v:TV B.S}:mw B (P7 B v s) (Cm (v.er B.E) (dA B s)):=by
 unfold P7 Cm;refine .bif λhc=>.ok ?_;simp only[fE,ru]at hc;obtain⟨h1,h2⟩:=hc;rw[gH]at h1;rw[dP ⟨h1,np h2⟩];rw[CT rfl];simp only[TV.er,fS,eB,gH];rfl
theorem MQ{t:TypeId}{z:AV}:mw B (ME B P t z s) (D8 P t z (dA B s)):=by
 unfold ME;split
 case h_2=>exact .no
 rename_i m e h1;split
 case h_2=>exact .no
 rename_i n h2;split
 case h_2=>exact .no
 refine .bif λhc=>.nn λys hy _=>.ok ?_;unfold D8;rw[h1];simp only[h2];rw[hc,dt,CT rfl];have:eB B.E ((chunk n m z.cells).map .a)=chunk n m z.cells:=by
  rw[eV,JR];exact(List.map_congr_left λ_ _=>rfl).trans (List.map_id _)
 simp only[TV.er,fS,TB.lz,hy,this];rfl
theorem Kr{t:TypeId}{p:TV B.S}{i:Nat}:yn P t (p.er B.E) i=(CO B P t p i).map (TV.er B.E)\/CO B P t p i=none:=by
 unfold yn CO;rw[<-fP p];generalize p.norm B=q;cases nV P t i with
 |none=>exact .inr rfl
 |some r=>
  obtain⟨off,n⟩:=r;simp only;cases hn:Nat.beq n 0 with
  |true=>exact .inr rfl
  |false=>
   have:n≠0:=λe=>by subst e;cases hn
   rw[dY this];simp only[dD];cases q<;>first|exact .inr rfl|skip
   case a x=>cases x<;>first|exact .inr rfl|exact .inl rfl
   case ip cs=>
    refine .inl ?_;simp only[TV.er,gX,eV,F9]
theorem li.Tt{o:Option (TV B.S)}{o':Option AV}(h:o'=o.map (TV.er B.E)\/o=none):li B (Go.Am.sO o s) o' s:=by
 rcases h with h|h
 ·exact .sO h
 ·subst h;exact .no
theorem Hg{t:TypeId}{x:TV B.S}{i:Nat}:ud P t (x.er B.E) i=(xL B P t x i).map (TV.er B.E)\/xL B P t x i=none:=by
 unfold ud xL;cases nV P t i with
 |none=>exact .inr rfl
 |some r=>
  obtain⟨off,n⟩:=r;simp only;cases Ck P t i with
  |none=>exact .inr rfl
  |some ft=>
   simp only;cases h:CN (x.norm B)with
   |false=>exact .inr rfl
   |true=>
    refine .inl ?_;simp only[dt];obtain⟨l,hl⟩:=CU (E:=B.E) (yW x) h;rw[fP]at hl;have hc:=ic x;rw[hl]at hc;simp only[hl,LG,<-kD,eV,F9];rw[<-eV,hc];rfl
theorem nq{x:TV B.S}{st:Bool}{k:IntKind}{n:Int}(h:II B x=some (st,k,n)):x.er B.E=.int k n:=by
 unfold II at h;rw[<-fP x];split at h
 ·rename_i hq;cases h;rw[hq];rfl
 ·rename_i hq;cases h;rw[hq];rfl
 ·cases h
theorem tl{x:TV B.S}{st b:Bool}(h:Lq B x=some (st,b)):x.er B.E=.bool b:=by
 unfold Lq at h;rw[<-fP x];split at h
 ·rename_i hq;cases h;rw[hq];rfl
 ·rename_i hq;cases h;rw[hq];rfl
 ·cases h
theorem vI{st:Bool}{k:IntKind}{n:Int}:(MD st k n:TV B.S).er B.E=.int k n:=by cases st<;>rfl
theorem Hh{st b:Bool}:(P8 st b:TV B.S).er B.E=.bool b:=by cases st<;>rfl
theorem EE{e c:Nat}{f:Bool}{xs:List (B.S c)}{n:Int}{t:TypeId}{k:IntKind}(he:eH P t=some e):li B (IJ B P e c xs n s) (fy P t (.sl f (xs.map (B.E c))) (.int k n) (dA B s)) s:=by
 unfold IJ;refine .bif λhc=>.ix λy hy=>.ok ?_;obtain⟨h0,hy⟩:=P2 hy;simp only[fy,he,sW,hy,gX];rw[dP h0,dP (by rw[fD.1 hc,B.hw])];simp only[TV.er,ic]
theorem MR{t:TypeId}{x i:TV B.S}:li B (MF B P t x i s) (fy P t (x.er B.E) (i.er B.E) (dA B s)) s:=by
 unfold MF;split
 case h_2=>exact .no
 rename_i st k n hi;rw[nq hi,<-fP x];generalize x.norm B=q;split
 ·rename_i e he;split
  ·exact EE he
  ·rename_i f cs;cases st with
   |true=>
    simp only[dt];split
    ·rename_i m;split
     ·rename_i y hy;refine .bif λhc=>.ok ?_;have h0:(0:Int)<=Int.ofNat m:=Vd m;simp only[fy,TV.er,he,xP];rw[dP h0];have:(Int.ofNat m).toNat=m:=rfl;rw[this,hy];simp only[gX];rw[dP (by rw[fD.1 hc,gH]),ic]
     ·exact .no
    ·exact .no
   |false=>
    simp only[dD];split
    ·rename_i c hc;refine .nn λys Ek _=>?_;rw[TV.er,<-Ek];exact EE he
    ·exact .no
  ·rename_i id b9 len;simp only[fy,TV.er,he];split
   ·rename_i cN c xs m hm hg;refine .bif λhc=>.DU λhl=>.ix λy hy=>.ok ?_;obtain⟨h0,hy⟩:=P2 hy;simp only[fE,fD]at hc;have hs:=jn hc.1;subst hs;subst hl;subst hm;have gl:n.toNat<xs.length:=(fT.1 hy).1;simp only[dE hg,gX,fS];rw[dP ⟨h0,by omega,hc.2⟩,Cd];rfl
   ·rename_i cN l hg;refine .bif λhc=>?_;simp only[fE,fD]at hc;split
    ·rename_i m;refine .bif λhm=>.ok ?_;simp only[dE hg,gX,fS];have h0:(0:Int)<=Int.ofNat m:=Vd m;simp only[ru]at hm;have h1:Int.ofNat m<(len:Int):=Int.ofNat_lt.2 hm;rw[dP ⟨h0,h1,hc.2⟩];rfl
    ·exact .no
   ·rename_i cN c x v m hg;refine .bif λhc=>.cB λhl=>.ok ?_;simp only[fE,fD]at hc;have hs:=jn hc.1;subst hs;simp only[dE hg,gX,fS];rw[dP ⟨hl.1,hl.2,hc.2⟩,Cd];rfl
   ·rename_i cN c w cl pre lh post hg;refine .bif λhc=>.cB λhl=>.ok ?_;simp only[fE,fD]at hc;have hs:=jn hc.1;subst hs;simp only[dE hg,gX,fS];rw[dP ⟨hl.1,hl.2,hc.2⟩,Cd];rfl
   ·exact .no
  ·exact .no
 ·rename_i he;split
  ·rename_i m e ha;split
   ·rename_i sz eG;cases hb:Nat.blt 8 (m*sz)with
    |true=>
     simp only[dt];split
     ·rename_i id el off;split
      ·rename_i cN c xs m' hm hg;refine .bif λhc=>.cB λhn=>.ix λy hy=>.ok ?_;obtain⟨h0,hy⟩:=P2 hy;simp only[fE]at hc;have e1:=jn hc.1;have e2:=jn hc.2.1;have e3:=jn hc.2.2;subst e1;subst e2;subst e3;simp only[fy,TV.er,he,ha,eG,hb,dt,dE hg,gX,fS];rw[dP ⟨h0,hn⟩,dP (by simp),Cd]
      ·exact .no
     ·exact .no
    |false=>
    simp only[dD];refine .bif λiA=>?_;split
    ·rename_i j;refine .bif λhm=>?_;simp only[ru]at hm;have h0:(0:Int)<=Int.ofNat j:=Vd j;have h1:Int.ofNat j<(m:Int):=Int.ofNat_lt.2 hm;have ht:(Int.ofNat j).toNat=j:=rfl;split
     ·refine .ok ?_;simp only[fy,TV.er,he,ha,eG,hb,dD];rw[dP ⟨h0,h1⟩,ht]
     ·refine .ok ?_;simp only[fy,TV.er,he,ha,eG];rw[dP ⟨h0,h1⟩,ht]
     ·refine .ok ?_;simp only[fy,TV.er,he,ha,eG];rw[dP ⟨h0,h1⟩,ht];simp only[eV,F9]
     ·exact .no
    ·exact .no
   ·exact .no
  ·exact .no
theorem Ks{t:TypeId}{x i:TV B.S}:li B (Hd B P t x i s) (sY P t (x.er B.E) (i.er B.E)) s:=by
 unfold Hd;split
 case h_2=>exact .no
 rename_i st k n hi;rw[nq hi];split
 ·rename_i b hb;refine .bif λhs=>.cB λhn=>.ok ?_;rw[<-fP x,hb];have hl:n.toNat<b.size:=by omega
  have e:b[n.toNat]? =some b[n.toNat]:=getElem?_pos b n.toNat hl;simp only[sY,TV.er,tU,e];rw[dP ⟨hs,hn.1⟩];rfl
 ·rename_i b hb;refine .bif λhs=>.cB λhn=>.ok ?_;rw[<-fP x,hb];have hl:n.toNat<b.size:=by omega
  have e:b[n.toNat]? =some b[n.toNat]:=getElem?_pos b n.toNat hl;simp only[sY,TV.er,tU,e];rw[dP ⟨hs,hn.1⟩];rfl
 refine .bif λhc=>?_;simp only[fE]at hc;obtain⟨l,hl⟩:=CU (E:=B.E) (yW x) hc.2;rw[fP]at hl;have s8:=ic x;rw[hl]at s8 |-
 split
 ·rename_i m e ha;split
  ·rename_i sz eG;split
   ·rename_i j;refine .bif λhm=>.sO ?_;simp only[ru]at hm;have h0:(0:Int)<=Int.ofNat j:=Vd j;have h1:Int.ofNat j<(m:Int):=Int.ofNat_lt.2 hm;have ht:(Int.ofNat j).toNat=j:=rfl;simp only[sY,ha,eG];rw[dP ⟨h0,h1⟩,ht,<-kD,eV,F9,<-eV,s8];rfl
   ·exact .no
  ·exact .no
 ·exact .no
theorem Qf{t:TypeId}{x:TV B.S}:li B (Tn B P t x s) (AP P t (x.er B.E)) s:=by
 unfold Tn;rw[<-fP x];generalize x.norm B=q;split
 ·refine .bif λhc=>.ok ?_;simp only[TV.er,AP,nE];rw[dP hc]
 ·refine .bif λhc=>.ok ?_;simp only[TV.er,AP,im];rw[dP hc]
 ·refine .bif λhc=>.ok ?_;simp only[TV.er,AP];rw[dP hc]
 ·refine .bif λhc=>.ok ?_;simp only[TV.er,AP];rw[dP hc]
 ·refine .bif λhc=>.ok ?_;simp only[TV.er,AP];rw[dP hc]
 ·split
  ·rename_i hq;exact .ok hq
  ·exact .no
 ·exact .no
theorem mW{bX:dU B.S}{x:Option Operand}{d:Nat}{k:Nat->TR B.S}{o:Option AV}(h: ∀n,gN (eY B bX) x d=some n->(x=none->n=d)->(He B bX x=true->d=0->n=0)->li B (k n) o s):li B (qO B bX x d k) o s:=by
 unfold qO;split
 ·exact h d rfl (λ_=>rfl) (λ_ e=>e)
 ·rename_i y;split
  ·rename_i v hv;split
   ·rename_i st kk n hn;refine .lC λh0=>h _ ?_ (λe=>by cases e) ?_
    ·simp only[gN,eL,hv,gX,nq hn];rw[dP h0]
    ·intro hz _;simp only[He,hv]at hz;split at hz
     ·rename_i hq;cases hq;simp only[II,TV.norm]at hn;cases hn;rfl
     ·cases hz
   ·exact .no
  ·exact .no
theorem uw{e c:Nat}{xs:List (B.S c)}(h:jA (dF P e) (B.W c)=true):fits P e (xs.map (B.E c)):=by
 intro y hy;cases xs with
 |nil=>simp at hy
 |cons x r=>
  simp at hy;subst hy;rw[fD.1 h,B.hw]
theorem yX{t e:TypeId}{w:Bool}{id b9 len:Nat}{bX:dU B.S}{lo hi:Option Operand}(he:eH P t=some e)(hw:w=true->b9=0):li B (xM B P e w id b9 len bX lo hi s) (nf P t (.ms id b9 len) (eY B bX) lo hi none (dA B s)) s:=by
 unfold xM;refine .bif λhc=>?_;have key: ∃cN elems,bJ (dA B s).heap id=some (.cells cN elems)/\dF P e=some cN:=by
  split at hc
  ·rename_i hg;exact⟨_,_,by rw[dE hg];rfl,fD.1 hc⟩
  ·rename_i hg;exact⟨_,_,by rw[dE hg];rfl,fD.1 hc⟩
  ·cases hc
 obtain⟨cN,elems,hg,hs⟩:=key;refine mW λl hl h0 hz=>mW λh hh h1 _=>.kY (λhb=>by rw[hz hb rfl];exact xC _) λSH=>.kY (λhb=>?_) λeP=>.ok ?_
 ·cases hi with
  |none=>rw[h1 rfl];exact eD _
  |some _=>cases hb
 ·simp only[nf,he,hg,hl,hh];rw[dP ⟨SH,eP,hs⟩];simp only[TV.er];have e1:(bif w then l else b9+l)=b9+l:=by
   cases w with
   |true=>rw[hw rfl];simp
   |false=>rfl
  have e2:(bif He B bX lo then h else h-l)=h-l:=by
   cases hq:He B bX lo with
   |true=>rw[hz hq rfl];simp
   |false=>rfl
  rw[e1,e2]
theorem Kt{t:TypeId}{x:TV B.S}{bX:dU B.S}{lo hi mx:Option Operand}:li B (Hf B P t x bX lo hi mx s) (nf P t (x.er B.E) (eY B bX) lo hi mx (dA B s)) s:=by
 unfold Hf;rw[<-fP x];generalize x.norm B=q;split
 ·exact .no
 split
 case h_2=>
  split
  ·rename_i b;refine .bif λhs=>mW λl hl _ _=>mW λh hh _ _=>.cB λhq=>.ok ?_;simp only[nf,TV.er,hl,hh];rw[dP ⟨hs,rfl⟩,dP hq]
  ·exact .no
 rename_i e he;split
 ·rename_i f c xs;refine .bif λhc=>mW λl hl h0 hz=>mW λh hh h1 _=>.kY (λhb=>by rw[hz hb rfl];exact xC _) λSH=>.kY (λhb=>?_) λeP=>.ok ?_
  ·cases hi with
   |none=>rw[h1 rfl];exact eD _
   |some _=>cases hb
  ·simp only[nf,TV.er,he,hl,nE,hh];rw[dP ⟨SH,eP,uw hc,by rw[fD.1 hc];rfl⟩];simp only[F9,Ly];cases f<;>simp
   cases hq:Nat.beq h xs.length with
   |true=>exact sB (jn hq)
   |false=>exact jb (λe=>by rw[e,O0]at hq;cases hq)
 ·rename_i id b9 len;exact yX he λhw=>jn hw
 ·exact yX he λhw=>by cases hw
 ·exact .no
theorem ux{e sz:Nat}(h:yU P e=some sz): ∃b,dF P e=some sz/\pD P e=some b/\0<sz/\b<=4096/\vw P e sz=true:=by
 unfold yU at h;split at h
 ·rename_i n b h1 h2;cases hc:Nat.blt 0 n&&Nat.ble b 4096&&vw P e n with
  |false=>simp[hc]at h
  |true=>
   simp only[hc,dt]at h;cases h;simp only[fE,ru,JP]at hc;exact⟨b,h1,h2,hc.1.1,hc.1.2,hc.2⟩
 ·cases h
theorem iL{n:Nat}{b:TB B.S}{h:List (Nat×TB B.S)}{c:Nat}{o:Option (AV×St)}(hb:gm b=false)(ho:o=some (.ms c 0 n,⟨(c,fS B b)::(dA B ⟨h,c⟩).heap,c+1⟩)):mw B (oT n b h c) o:=.ok (by rw[CT hb];exact ho)
theorem MS{t e sz:Nat}{x:TV B.S}{cs:List (TV B.S)}(he:eH P t=some e)(ha:yU P e=some sz)(eU:cs≠[]):mw B (MG B P e sz x cs s) (gr P t (x.er B.E) (eB B.E cs) (dA B s)):=by
 obtain⟨b,h1,h2,h3,h4,h5⟩:=ux ha;have nH:eB B.E cs≠[]:=λe=>eU (by rw[eV]at e;exact List.map_eq_nil_iff.1 e);have top: ∀x,gr P t x (eB B.E cs) (dA B s)=match x with
    |.sl full elems=>if full=true/\elems.length+cs.length<=bQ/\fits P e elems then
      some (.ms s.cr 0 (elems.length+cs.length),⟨(s.cr,.cells sz (elems++eB B.E cs))::(dA B s).heap,s.cr+1⟩)else none
    |.ms id b9 len=>match bJ (dA B s).heap id with
     |some (.cells cN elems)=>if cN=sz/\b9+len<=elems.length/\len+cs.length<=bQ then
       some (.ms s.cr 0 (len+cs.length),⟨(s.cr,.cells sz ((elems.drop b9).take len++eB B.E cs))::eN (dA B s).heap id,s.cr+1⟩)else none
     |_=>none
    |.mc id b9 len cap=>gr P t (.mc id b9 len cap) (eB B.E cs) (dA B s)
    |_=>none:=by
  intro x;cases x<;>simp only[gr,he,h1,h2]<;>first|rw[dP ⟨h3,h4,h5⟩]|skip
  ·rw[dY nH,im];rfl
  ·rw[dY nH,im];rfl
 unfold MG;rw[top,<-fP x];generalize x.norm B=q;split
 ·refine .bif λhc=>?_;have hc:=tR hc;simp only[TV.er];rw[dP ⟨trivial,by simpa using hc,λy hy=>by simp at hy⟩];split
  ·rename_i c hcc;refine .nn λys Ek hl=>iL rfl ?_;simp[fS,Ek]
  ·refine iL rfl ?_;simp[fS]
 ·rename_i c xs;refine .bif λhc=>.nn λys Ek hl=>.cB λhm=>iL rfl ?_;simp only[TV.er,nE];rw[dP ⟨trivial,hm,uw hc⟩];simp[fS,Ek,hl]
 ·rename_i id b9 n;simp only[TV.er];split
  ·rename_i cN c xs m hm hg;refine .bif λhc=>.nn λys Ek hl=>.DU λhn=>.cB λhm=>iL rfl ?_;simp only[fE]at hc;have e1:=jn hc.1.1;have e2:=jn hc.1.2;subst e1;subst e2;subst hn;subst hm;simp only[dE hg,gX,fS,nE];rw[dP ⟨trivial,by omega,hm⟩];rw[mO hc.2];simp[Ek,hl,tP]
  ·rename_i cN l hg;refine .bif λhc=>.DU λhn=>iL rfl ?_;simp only[fE,JP]at hc;have e1:=jn hc.1.1.1;have e2:=jn hc.1.1.2;subst e1;subst e2;subst hn;simp only[dE hg,gX,fS,im];rw[dP ⟨trivial,by omega,hc.1.2⟩];rw[mO hc.2];simp[eV,tP]
  ·rename_i cN c w cl pre lh post hg;split
   ·split
    ·refine .bif λhc=>.DU λhn=>.cB λhm=>iL rfl ?_;simp only[fE,JP]at hc;have e1:=jn hc.1.1.1;have e2:=jn hc.1.1.2;subst e1;subst e2;subst hn;simp only[dE hg,gX,fS,eB,iE,xD,Ih];have hp:pre.length<=cU:=by omega
     rw[dP ⟨trivial,by rw[qQ hp];omega,by have:=hc.2;unfold cU at hm this;unfold bQ;omega⟩];rw[mO hc.1.2,VZ,tP (by rw[qQ hp];exact eD _)]
    ·exact .no
   ·exact .no
  ·exact .no
 ·rename_i id b9 n;simp only[TV.er];split
  ·rename_i cN c xs _ _ hg;refine .bif λhc=>.nn λys Ek hl=>.cB λhn=>.cB λhm=>iL rfl ?_;simp only[fE]at hc;have e1:=jn hc.1;subst e1;simp only[dE hg,gX,fS,nE];rw[dP ⟨trivial,hn,hm⟩];rw[mO hc.2];simp[Ek,hl,Ly,F9];omega
  ·exact .no
 ·exact .no
theorem uy{c d:Nat}{x:List (B.S c)}{y:List (B.S d)}(h:BE c d x=some y):y.map (B.E d)=x.map (B.E c)/\y.length=x.length:=by
 unfold BE at h;split at h
 ·rename_i e;subst e;cases h;exact⟨rfl,rfl⟩
 ·cases h
theorem EF{t e sz:Nat}{x:TV B.S}(he:eH P t=some e)(ha:yU P e=some sz):mw B (IK B x s) (gr P t (x.er B.E) [] (dA B s)):=by
 obtain⟨b,h1,h2,h3,h4,h5⟩:=ux ha;unfold IK;rw[<-fP x];generalize hq:x.norm B=q;have key: ∀{y:AV},q.er B.E=y->(∃f l,y=.sl f l)\/(∃i a n,y=.ms i a n)->mw B (.ok x s) (gr P t y [] (dA B s)):=by
  intro y hy hs;refine .ok ?_;rw[<-fP x,hq,hy];rcases hs with⟨f,l,rfl⟩|⟨i,a,n,rfl⟩<;>simp only[gr,he,h1,h2,wz]<;>rw[dP ⟨h3,h4,h5⟩]
 split
 ·exact key rfl (.inl ⟨_,_,rfl⟩)
 ·exact key rfl (.inr ⟨_,_,_,rfl⟩)
 ·exact key rfl (.inl ⟨_,_,rfl⟩)
 ·exact key rfl (.inl ⟨_,_,rfl⟩)
 ·exact key rfl (.inr ⟨_,_,_,rfl⟩)
 ·exact .no
theorem MT{t e sz:Nat}{x:TV B.S}{c:Nat}{ys:List (B.S c)}(he:eH P t=some e)(ha:yU P e=some sz):mw B (MH B P e sz x c ys s) (gr P t (x.er B.E) (ys.map (B.E c)) (dA B s)):=by
 obtain⟨b,h1,h2,h3,h4,h5⟩:=ux ha;intro K hK;unfold MH TR.wp at hK;cases YM:ys.isEmpty with
 |true=>
  rw[YM]at hK;simp only[dt]at hK;have hn:ys=[]:=by simpa using YM
  subst hn;exact EF he ha K hK
 |false=>
  rw[YM]at hK;simp only[dD]at hK;have eU:ys≠[]:=by intro e;subst e;cases YM
  have nH:ys.map (B.E c)≠[]:=λe=>eU (List.map_eq_nil_iff.1 e);have top: ∀x,gr P t x (ys.map (B.E c)) (dA B s)=match x with
     |.sl full elems=>if full=true/\elems.length+ys.length<=bQ/\fits P e elems then
       some (.ms s.cr 0 (elems.length+ys.length),⟨(s.cr,.cells sz (elems++ys.map (B.E c)))::(dA B s).heap,s.cr+1⟩)else none
     |.ms id b9 len=>match bJ (dA B s).heap id with
      |some (.cells cN elems)=>if cN=sz/\b9+len<=elems.length/\len+ys.length<=bQ then
        some (.ms s.cr 0 (len+ys.length),⟨(s.cr,.cells sz ((elems.drop b9).take len++ys.map (B.E c)))::eN (dA B s).heap id,s.cr+1⟩)else none
      |_=>none
     |.mc id b9 len cap=>gr P t (.mc id b9 len cap) (ys.map (B.E c)) (dA B s)
     |_=>none:=by
   intro x;cases x<;>simp only[gr,he,h1,h2]<;>first|rw[dP ⟨h3,h4,h5⟩]|skip
   ·rw[dY nH,nE];rfl
   ·rw[dY nH,nE];rfl
  rw[top,<-fP x];generalize x.norm B=q at hK;have done: ∀{tr:TR B.S}{o:Option (AV×St)},mw B tr o->tr.wp K-> ∃v s',o=some (v.er B.E,dA B s')/\K v s':=λh hk=>h K hk;refine done ?_ hK;split
  ·refine .cB λhm=>iL rfl ?_;simp only[TV.er];rw[dP ⟨trivial,by simpa using hm,λy hy=>by simp at hy⟩];simp[fS]
  ·rename_i d xs;refine .bif λhc=>?_;split
   ·rename_i zs hz;obtain⟨z1,z2⟩:=uy hz;refine .cB λhm=>iL rfl ?_;simp only[TV.er,nE];rw[dP ⟨trivial,by omega,uw hc⟩];simp[fS,z1,z2]
   ·exact .no
  ·rename_i id b9 n;simp only[TV.er];split
   ·rename_i cN d xs m oG hg;refine .bif λhc=>?_;split
    ·rename_i zs hz;obtain⟨z1,z2⟩:=uy hz;refine .DU λhn=>.cB λhm=>iL rfl ?_;simp only[fE]at hc;have e1:=jn hc.1.1;have e2:=jn hc.1.2;subst e1;subst e2;subst hn;subst oG;simp only[dE hg,gX,fS,nE];rw[dP ⟨trivial,by omega,by omega⟩];rw[mO hc.2];simp[z1,z2,tP]
    ·exact .no
   ·exact .no
  ·rename_i id b9 n;simp only[TV.er];split
   ·rename_i cN d xs _ _ hg;refine .bif λhc=>?_;split
    ·rename_i zs hz;obtain⟨z1,z2⟩:=uy hz;refine .cB λhn=>.cB λhm=>iL rfl ?_;simp only[fE]at hc;have e1:=jn hc.1;subst e1;simp only[dE hg,gX,fS,nE];rw[dP ⟨trivial,hn,by omega⟩];rw[mO hc.2];simp[z1,z2,Ly,F9];omega
    ·exact .no
   ·exact .no
  ·exact .no
theorem BG{e:TypeId}{y:TV B.S}{k1:List (TV B.S)->TR B.S}{k2:(c:Nat)->List (B.S c)->TR B.S}{o:Option (AV×St)}{O:List AV->Option (AV×St)}
  (ho: ∀l,gh (y.er B.E) (dA B s)=some l->lx P e (y.er B.E) (dA B s)->o=O l)
  (h1: ∀cs,mw B (k1 cs) (O (eB B.E cs))) (h2: ∀c ys,mw B (k2 c ys) (O (ys.map (B.E c)))):mw B (CP B P e y s k1 k2) o:=by
 unfold CP;rw[<-fP y]at ho;generalize y.norm B=q at ho;split
 ·rename_i f cs;refine .bif λhc=>?_;rw[ho _ rfl ?_]
  ·exact h1 cs
  ·intro z hz;cases cs with
   |nil=>simp[eB]at hz
   |cons x r=>
    simp[eB]at hz;subst hz;rw[fD.1 hc,gH]
 ·rw[ho _ rfl (λz hz=>by simp at hz)];exact h1 []
 ·rename_i f c ys;refine .bif λhc=>?_;rw[ho _ rfl (uw hc)];exact h2 c ys
 ·rename_i id b9 n;simp only[TV.er,gh,lx]at ho;split
  ·rename_i cN c xs m hm hg;refine .bif λhc=>.DU λhn=>?_;simp only[fE,fD]at hc;have e1:=jn hc.2;subst e1;subst hn;subst hm;rw[ho (xs.map (B.E c)) (by simp only[dE hg,gX,fS];rw[dP (by simp)];simp[tP]) (by simp only[dE hg,gX,fS];exact hc.1)];exact h2 c xs
  ·rename_i cN l hg;refine .bif λhc=>.DU λhn=>?_;simp only[fE,fD]at hc;have e1:=jn hc.2;subst e1;subst hn;rw[ho (eB B.E l) (by simp only[dE hg,gX,fS];rw[dP (by simp[im])];simp[tP,im]) (by simp only[dE hg,gX,fS];exact hc.1)];exact h1 l
  ·exact .no
 ·rename_i id b9 n;simp only[TV.er,gh,lx]at ho;split
  ·rename_i cN c xs _ _ hg;refine .bif λhc=>.cB λhn=>?_;rw[ho (((xs.drop b9).take n).map (B.E c)) (by simp only[dE hg,gX,fS];rw[dP (by simpa using hn)];simp[Ly,F9]) (by simp only[dE hg,gX,fS];exact fD.1 hc)];exact h2 c _
  ·exact .no
 ·exact .no
def yY(P:Program)(t u:TypeId)(x y:AV)(s:St):Option (AV×St):=match y with
 |.int _ n=>match eH P t with
  |some e=>match jK P e with
   |some z=>if 0<=n/\n<=bQ/\(Gw P u).isSome=true/\dF P e=some z.cells.length/\z.cells.all AV.dn=true then gr P t x (List.replicate n.toNat z) s else none
   |none=>none
  |none=>none
 |y=>match eH P t,gh y s with
  |some e,some new=>if lx P e y s/\(eH P u).isSome=true then gr P t x new s else none
  |_,_=>none
theorem Hi{t u:TypeId}{x y:TV B.S}:mw B (CQ B P t u x y s) (yY P t u (x.er B.E) (y.er B.E) (dA B s)):=by
 unfold CQ;split
 case h_2=>exact .no
 rename_i e he;split
 case h_2=>exact .no
 rename_i sz ha;refine .bif λhu=>?_;have h0: ∀k n,y.er B.E=.int k n->(∀l,gh (y.er B.E) (dA B s)≠some l):=λk n e l=>by rw[e];simp[gh]
 refine BG (P:=P) (e:=e) (O:=λl=>gr P t (x.er B.E) l (dA B s)) (λl hl hf=>?_) (λcs=>?_) (λc ys=>MT he ha)
 ·generalize y.er B.E=v at hl hf h0;cases v<;>first|exact absurd hl (h0 _ _ rfl _)|(simp only[yY,he,hl];rw[dP ⟨hf,hu⟩])
 ·cases cs with
  |nil=>exact EF he ha
  |cons a r=>exact MS he ha (by simp)
theorem MU{t:TypeId}{lo co:Operand}{bX:dU B.S}:mw B (MK B P t lo co bX s) (match oper (eY B bX) lo,oper (eY B bX) co with
  |some l,some c=>D9 P t l c (dA B s)
  |_,_=>none):=by
 unfold MK;simp only[eL];split
 case h_2=>exact .no
 rename_i l c e hl hc he;split
 case h_2=>exact .no
 rename_i sn kn n sm km m hn hm;split
 case h_2=>exact .no
 rename_i sz z ha hz;refine .bif λhq=>.lC λh0=>?_;obtain⟨b,h1,h2,h3,h4,h5⟩:=ux ha;simp only[fE]at hq;have Bt:=jn hq.1;simp only[hl,hc,gX,nq hn,nq hm,D9,he,h1,h2,hz];have fin:n<=m->m<=(bQ:Int)->mw B (match B.T e with
     |some c=>bif P9 z then oT n.toNat (.rows sz c [] [] n.toNat) s.heap s.cr else Hb B c (.a z) λy=>oT (List.replicate n.toNat y).length (.lz sz c (List.replicate n.toNat y)) s.heap s.cr
     |none=>bif sn then oT n.toNat (.cW sz (List.replicate n.toNat (.a z))) s.heap s.cr else .no)
    (if 0<=n/\n<=m/\m<=bQ/\0<sz/\z.cells.length=sz/\z.cells.all AV.dn=true/\b<=4096 then some (.ms (dA B s).cr 0 n.toNat,⟨((dA B s).cr,.cells sz (List.replicate n.toNat z))::(dA B s).heap,(dA B s).cr+1⟩)else none):=by
  intro g1 g2;rw[dP ⟨h0,g1,g2,h3,Bt,hq.2,h4⟩];split
  ·rename_i c hc;cases hz:P9 z with
   |true=>
    simp only[dt];refine iL rfl ?_;have e:z=.sl true []:=by unfold P9 at hz;split at hz;rfl;cases hz
    subst e;simp[fS,eB];first|done|rfl|exact⟨rfl,rfl⟩
   |false=>
    simp only[dD];refine .dec λy hy=>iL rfl ?_;simp only[fS,List.map_replicate,Sy,hy,TV.er];rfl
  ·refine .bif λ_=>iL rfl ?_;simp only[fS,eV,List.map_replicate,TV.er];rfl
 cases hs:sn&&sm with
 |true=>
  simp only[dt];refine .bif λhd=>?_;simp only[fE,AE]at hd;exact fin hd.1 hd.2
 |false=>
  simp only[dD];refine .kY (λhb=>?_) λg1=>.cB λg2=>fin g1 g2;have:lo=co:=by
   cases lo<;>cases co<;>simp only[MJ]at hb<;>first|(cases hb;done)|rw[jn hb]
  subst this;rw[hl]at hc;cases hc;rw[hn]at hm;cases hm;exact Ve n
theorem yZ{cp:Nat->Option (Nat×Nat)}: ∀{cR:List (Nat×TV B.S)}{cells l:List (TV B.S)},EA B cp cells cR=some l->sL cp (eB B.E cells) (cR.map λp=>(p.1,p.2.er B.E))=some (eB B.E l)
 | [],cells,l,h=>by cases h;rfl
 |(i,v)::r,cells,l,h=>by
  simp only[EA]at h;simp only[wy,sL];split at h
  ·rename_i off n hp;simp only[hp];cases hq:Nat.beq (eh B v).length n&&(eh B v).all qg&&Nat.ble (off+n) cells.length with
   |false=>simp[hq]at h
   |true=>
    simp only[hq,dt]at h;simp only[fE,JP]at hq;obtain⟨⟨h1,h2⟩,h3⟩:=hq;have h1:=jn h1;rw[gH]at h1;rw[dP ⟨h1,np h2,by rw[im];exact h3⟩,<-ic,<-oU];exact yZ h
  ·cases h
theorem rR{bX:dU B.S}: ∀{l:List (Nat×Operand)},my (eY B bX) l=(th bX l).map (λr=>r.map λp=>(p.1,p.2.er B.E))
 | []=>rfl
 |(i,x)::r=>by
  simp only[my,th,eL,rR (l:=r)];cases fG bX x with
  |none=>rfl
  |some v=>cases th bX r<;>rfl
theorem Ku{t:TypeId}{cR:List (Nat×TV B.S)}{v:TV B.S}(h:CR B P t cR=some v):yq P t (cR.map λp=>(p.1,p.2.er B.E))=some (v.er B.E):=by
 unfold CR at h;unfold yq;split at h
 case h_2=>cases h
 rename_i cs hz;simp only[hz];cases hs:xE P t with
 |true=>
  simp only[hs,dt]at h;rw[dP rfl];split at h
  ·rename_i l hl;cases h;have:=yZ hl;rw[IP]at this;simp only[this];rfl
  ·cases h
 |false=>
  simp only[hs,dD]at h;rw[dY (by simp)];split at h
  ·rename_i m e ha;simp only[ha];split at h
   ·rename_i sz eG;simp only[eG];split at h
    ·rename_i l hl;cases h;have:=yZ hl;rw[IP]at this;simp only[this];rfl
    ·cases h
   ·cases h
  ·cases h
theorem uz: ∀{l:List (Nat×TV B.S)}{i:Nat},rN l i=true->oL (l.map λp=>(p.1,p.2.er B.E)) i=true
 | [],_,_=>rfl
 |(j,x)::r,i,h=>by
  simp only[rN,fE]at h;simp only[wy,oL,fE];exact⟨by simp[jn h.1],uz h.2⟩
theorem qR{t:TypeId}{len:Nat}{own:Bool}{cR:List (Nat×TV B.S)}:mw B (qP B P t len own cR s) (bif own then(match gw P t len (cR.map λp=>(p.1,p.2.er B.E)),eH P t with
   |some _,some e=>match dF P e with
    |some sz=>some (.ms s.cr 0 cR.length,⟨(s.cr,.cells sz ((cR.map λp=>(p.1,p.2.er B.E)).map (·.2)))::(dA B s).heap,s.cr+1⟩)
    |none=>none
   |_,_=>none)else gE (gw P t len (cR.map λp=>(p.1,p.2.er B.E))) (dA B s)):=by
 unfold qP;split
 case h_2=>exact .no
 rename_i e he;split
 case h_2=>exact .no
 rename_i sz z eG hz;refine .bif λhq=>?_;simp only[fE,JP,ru]at hq;obtain⟨⟨⟨⟨⟨h1,h2⟩,h3⟩,h4⟩,h5⟩,h6⟩:=hq;have h1:=jn h1;have h6:=jn h6;have hb:gw P t len (cR.map λp=>(p.1,p.2.er B.E))=some (.sl true ((cR.map λp=>(p.1,p.2.er B.E)).map (·.2))):=by
  have jz: ∀p∈cR.map (λp=>(p.1,p.2.er B.E)),p.2.cells.length=sz/\p.2.cells.all AV.dn=true:=λp hp=>by
   obtain⟨q,hq,rfl⟩:=kl.1 hp;have:=pA.1 h3 q hq;simp only[fE]at this;exact⟨by rw[<-gH];exact jn this.1,np this.2⟩
  unfold gw;simp only[he,eG,hz];rw[dP ⟨by simpa using h1,uz h2,jz,h4,h5,h6⟩]
 have hm:(cR.map λp=>(p.1,p.2.er B.E)).map (·.2)=eB B.E (cR.map (·.2)):=by rw[eV,JR,JR];rfl
 rw[hb];cases own with
 |true=>
  simp only[dt,he,eG];split
  ·rename_i c hc;refine .nn λys Ek hl=>iL rfl ?_;simp only[fS,Ek,hm,h1]
  ·refine iL rfl ?_;simp only[fS,hm,h1]
 |false=>
  simp only[dD];refine .ok ?_;simp only[gE,hm];cases PS:Nat.beq len 0 with
  |false=>rfl
  |true=>
   have e:=jn PS;rw[e]at h1;have:cR=[]:=Gs h1;subst this;rfl
theorem Qg{op:BinOp}{k:IntKind}{sa sb:Bool}{x y:Int}:li B (To B op k sa sb x y s) (yp op k x y) s:=by
 have q:(sb&&!(decide (y=0)))=true->y≠0:=λh=>by simp only[fE,qn,O6]at h;exact h.2
 cases op<;>simp only[To]<;>first
  |(refine .ok ?_;simp only[vI,Hh,yp];done)
  |(refine .kY q λh=>.ok ?_;simp only[vI,yp];rw[dY h];done)
  |(refine .lC λh=>.ok ?_;simp only[vI,yp];rw[dY (by omega)];done)
  |exact .no
theorem Qh{op:BinOp}{t:TypeId}{x y:TV B.S}:li B (Tp B P op t x y s) (Gz P op t (x.er B.E) (y.er B.E)) s:=by
 unfold Tp;split
 ·rename_i sa k a sb k' b hx hy;refine .bif λhq=>?_;rw[nq hx,nq hy];have:Gz P op t (.int k a) (.int k' b)=yp op k a b:=by
   simp only[tY,AE]at hq;cases op<;>simp only[Gz]<;>first
    |rfl
    |(rcases hq with hq|hq;cases hq;rw[dP hq])
  rw[this];exact Qg
 ·split
  ·rename_i r hr;exact .ok (by rw[hr,Hh])
  ·exact .no
theorem Tu{op:UnOp}{x:TV B.S}:li B (tUn B op x s) (Z0 op (x.er B.E)) s:=by
 unfold tUn;split
 ·split
  ·rename_i st b hb;refine .ok ?_;rw[tl hb,Hh];rfl
  ·exact .no
 ·split
  ·rename_i st k n hb;refine .ok ?_;rw[nq hb,vI];rfl
  ·exact .no
 ·exact .no
theorem EG{src dst:TypeId}{x:TV B.S}:li B (yV B P src dst x s) (oK P src dst (x.er B.E)) s:=by
 unfold yV;split
 ·rename_i st k n hn;refine .bif λhq=>?_;rw[nq hn];split
  ·rename_i k' hk;refine .ok ?_;simp only[oK,hk,vI];rw[dP hq]
  ·exact .no
 ·rw[<-fP x];split
  ·rename_i b hb;refine .bif λhq=>.ok ?_;simp only[fE]at hq;rw[hb];simp only[TV.er,oK];rw[dP hq]
  ·rename_i b hb;refine .bif λhq=>.ok ?_;simp only[fE]at hq;rw[hb];simp only[TV.er,oK];rw[dP hq]
  ·exact .no
theorem EH{f:Int->Int->Int}{g:AV->AV->Option AV}(hg: ∀k a b,g (.int k a) (.int k b)=some (.int k (f a b))): ∀{r:List (TV B.S)}{st AK:Bool}{k k':IntKind}{a n:Int},IL B f (st,k,a) r=some (AK,k',n)->wC g (.int k a) (eB B.E r)=some (.int k' n)
 | [],st,AK,k,k',a,n,h=>by cases h;rfl
 |y::r,st,AK,k,k',a,n,h=>by
  simp only[IL]at h;split at h
  ·rename_i s2 k2 b hb;cases hq:decide (k=k2)with
   |false=>simp[hq]at h
   |true=>
    simp only[hq,dt]at h;have e:=Rf hq;subst e;simp only[eB,nq hb,wC,hg];exact EH hg h
  ·cases h
theorem za{f:Int->Int->Int}{g:AV->AV->Option AV}(hg: ∀k a b,g (.int k a) (.int k b)=some (.int k (f a b))){l:List (TV B.S)}:li B (xN B f l s) (match eB B.E l with
  |x::r=>wC g x r
  | []=>none) s:=by
 unfold xN;split
 ·rename_i x r;split
  ·rename_i q hq;split
   ·rename_i st k n hn;obtain⟨s0,k0,a0⟩:=q;refine .ok ?_;simp only[eB,nq hq,EH hg hn,vI]
   ·exact .no
  ·exact .no
 ·exact .no
theorem Hj{c:Call}{bX:Env}{s:St}{x y:AV}{t u:TypeId}(hc:c.callee=.builtin .append)(hl:opers bX c.args.toList=some [x,y])(h0:c.argTypes[0]? =some t)(h1:c.argTypes[1]? =some u):jc P (.call c) bX s=yY P t u x y s:=by
 simp only[jc,hc,hl,h0,h1];rfl
theorem MV{c:Call}{bX:Env}{s:St}{x y:AV}{t:TypeId}(hc:c.callee=.builtin .copy)(hl:opers bX c.args.toList=some [x,y])(h0:c.argTypes[0]? =some t):jc P (.call c) bX s=GS P t x y s:=by
 simp only[jc,hc,hl,h0];rfl
theorem MW{t:TypeId}{x y:TV B.S}:mw B (MI B P t x y s) (GS P t (x.er B.E) (y.er B.E) (dA B s)):=by
 unfold MI;split
 case h_2=>exact .no
 rename_i e he;refine BG (P:=P) (e:=e) (O:=λl=>yo P t (x.er B.E) l (dA B s)) (λl hl hf=>?_) (λcs=>.no) (λc ys=>?_)
 ·generalize y.er B.E=v at hl hf;cases v<;>first|(simp only[GS,he,hl];rw[dP hf])|(simp[gh]at hl)
 ·unfold yo;rw[he,<-fP x];generalize x.norm B=q;split
  case h_2=>exact .no
  rename_i id b9 n;simp only[TV.er];split
  case h_2=>exact .no
  rename_i cN d xs _ _ hg;refine .bif λhc=>?_;split
  case h_2=>exact .no
  rename_i ys' hy;obtain⟨y1,y2⟩:=uy hy;refine .cB λhn=>.ok ?_;simp only[dE hg,gX,fS,nE];rw[dP ⟨fD.1 hc,hn⟩,rP hg rfl rfl,<-y2,<-y1];simp only[TV.er,fS,cpL,Cf,Ly,F9,nE];rfl
theorem Qi{b:Builtin}{c:Call}{bX:dU B.S}(hc:c.callee=.builtin b):mw B (Tq B P b c bX s) (jc P (.call c) (eY B bX) (dA B s)):=by
 unfold Tq;split
 case h_2=>exact .no
 rename_i l hl;have vr:opers (eY B bX) c.args.toList=some (eB B.E l):=by rw[lD,hl];rfl
 split
 ·split
  ·rename_i x t ht;simp only[jc,hc,vr,eB,ht];exact Qf.toS
  ·exact .no
 ·split
  ·rename_i x y t u ht hu;rw[Hj hc vr ht hu];exact Hi
  ·exact .no
 ·split
  ·rename_i x y t ht;rw[MV hc vr ht];exact MW
  ·exact .no
 ·simp only[jc,hc,vr];have:=za (s:=s) (f:=yR) (g:=Py) (λk a b=>by simp[Py,yR]) (l:=l);cases l with
  |nil=>exact .no
  |cons x r=>exact this.toS
 ·simp only[jc,hc,vr];have:=za (s:=s) (f:=kX) (g:=Pz) (λk a b=>by simp[Pz,kX]) (l:=l);cases l with
  |nil=>exact .no
  |cons x r=>exact this.toS
 ·exact .no
theorem zb{op:Op}{bX:dU B.S}(hc:gx op=none):mw B (top B P false op bX s) (jc P op (eY B bX) (dA B s)):=by
 unfold top;split
 ·simp only[jc,eL];exact(li.sO rfl).toS
 ·simp only[jc,eL];exact(li.sO rfl).toS
 ·rename_i c a b;simp only[jc,eL];split
  case h_2=>exact .no
  rename_i v hv;split
  case h_2=>exact .no
  rename_i st t ht;simp only[hv,gX,tl ht];have key: ∀t:Bool,mw B (sO (bif t then fG bX a else fG bX b) s) (if t=true then gE ((fG bX a).map (TV.er B.E)) (dA B s)else gE ((fG bX b).map (TV.er B.E)) (dA B s)):=by
   intro t;cases t with
   |true=>exact(li.sO rfl).toS
   |false=>exact(li.sO rfl).toS
  cases st with
  |true=>exact key t
  |false=>exactλK hK=>key t K hK
 ·rename_i t;simp only[jc];split
  ·rename_i z hz;simp only[hz];exact IQ
  ·rename_i WC;split
   ·rename_i z hz;simp only[WC,hz];exact MQ
   ·exact .no
 ·rename_i x;simp only[jc,eL];split
  ·rename_i v hv;simp only[hv,gX];exact IQ
  ·exact .no
 ·rename_i t cR;simp only[jc,rR];split
  ·rename_i l hl;simp only[hl,gX];refine(li.Tt ?_).toS;cases hb:CR B P t l with
   |none=>exact .inr rfl
   |some v=>exact .inl (Ku hb)
  ·exact .no
 ·rename_i t len cR;simp only[jc,rR];split
  ·rename_i l hl;simp only[hl,gX];exact qR (own:=false)
  ·exact .no
 ·simp only[jc,eL];split
  ·rename_i v hv;simp only[hv,gX];exact ED.toS
  ·exact .no
 ·simp only[jc,eL];split
  ·rename_i v hv;split
   ·rename_i x hx;simp only[hv,hx,gX];exact Kq
   ·exact .no
  ·exact .no
 ·simp only[jc,eL];split
  ·rename_i v hv;simp only[hv,gX];rw[<-fP v];split
   ·rename_i hq;rw[hq];exact .ok rfl
   ·rename_i hq;rw[hq];exact .ok rfl
   ·rename_i hq;rw[hq];exact .ok rfl
   ·rename_i hq;rw[hq];exact .ok rfl
   ·exact .no
  ·exact .no
 ·simp only[jc,eL];split
  ·rename_i v hv;split
   ·rename_i x hx;simp only[hv,hx,gX];exact Qh.toS
   ·exact .no
  ·exact .no
 ·simp only[jc,eL];split
  ·rename_i v hv;simp only[hv,gX];exact Tu.toS
  ·exact .no
 ·simp only[jc,eL];split
  ·rename_i v hv;simp only[hv,gX];exact EG.toS
  ·exact .no
 ·rename_i f first gk
  refine .bif λhq=>?_;simp only[jc,lD];rw[dP (jn hq)];split
  ·rename_i l hl;simp only[hl,gX];exact .ok rfl
  ·exact .no
 ·simp only[jc,eL];split
  ·rename_i v hv;simp only[hv,gX];exact Kt.toS
  ·exact .no
 ·simp only[jc,eL];split
  ·rename_i v hv;simp only[hv,gX];exact(li.Tt Kr).toS
  ·exact .no
 ·simp only[jc,eL];split
  ·rename_i v hv;simp only[hv,gX];exact(li.Tt Hg).toS
  ·exact .no
 ·simp only[jc,eL];split
  ·rename_i v hv;split
   ·rename_i x hx;simp only[hv,hx,gX];exact MR.toS
   ·exact .no
  ·exact .no
 ·simp only[jc,eL];split
  ·rename_i v hv;split
   ·rename_i x hx;simp only[hv,hx,gX];exact Ks.toS
   ·exact .no
  ·exact .no
 ·simp only[jc,eL];split
  ·rename_i v hv;simp only[hv,gX];rw[<-fP v];split
   ·rename_i vs hq;rw[hq];simp only[TV.er];refine(li.sO ?_).toS;rw[xP]
   ·exact .no
  ·exact .no
 ·simp only[jc];exact MU
 ·split
  ·rename_i b hb;exact Qi hb
  ·exact .no
 ·exact .no
end
end Go.Am
