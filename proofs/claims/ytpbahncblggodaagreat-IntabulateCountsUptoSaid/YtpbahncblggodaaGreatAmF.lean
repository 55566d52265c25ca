/- The logic AM, F: the names of families of blocks. -/
import Derived.Test.YtpbahncblggodaaGreatAmX
set_option linter.all false
namespace Go.Am
open Go.RowKit
def tY:List (Nat×Nat)->Nat->Option (Nat×Nat)
 | [],_=>none
 |v::r,id=>bif fL v.1 id then tY r id else some v
def pw(L W:List (Nat×Nat))(id:Nat):Nat:=match tY W id with
 |some v=>v.2+(id-v.1)
 |none=>pi L id
theorem fe{w id:Nat}(h:fL w id=false):w<id/\id<w+vr:=by
 unfold fL at h
 rw[Fx]at h
 obtain⟨h1,h2⟩:=h
 constructor
 ·apply Nat.lt_of_not_le;intro h;rw[U3 h]at h1;cases h1
 ·apply Nat.lt_of_not_le;intro h;rw[U3 h]at h2;cases h2
theorem lA{w id:Nat}(h1:w<id)(h2:id<w+vr):fL w id=false:=by
 cases hq:fL w id with
 |false=>rfl
 |true=>
  unfold fL at hq
  rw[tz]at hq
  rcases hq with h|h
  ·have:=tA h;omega
  ·have:=tA h;omega
def Pe(a b:Nat):Bool:=Nat.ble (a+vr) b||Nat.ble (b+vr) a
def lW{S:Nat->Type}(k:Nat)(b:TB S)(k':Nat)(b':TB S):Bool:=
 (bif fR b then fL k k'&&!(Nat.beq k k')&&(bif fR b' then Pe k k' else true)else true)&&(bif fR b' then fL k' k&&!(Nat.beq k k')else true)
def pN{S:Nat->Type}:List (Nat×TB S)->Bool
 | []=>true
 |(k,b)::r=>(r.all λq=>lW k b q.1 q.2)&&pN r
def Bg{S:Nat->Type}(n:Nat)(h:List (Nat×TB S)):Bool:=h.all λp=>!(fR p.2)||Nat.ble (p.1+vr) n
def jF{S:Nat->Type}(L:List (Nat×Nat))(n:Nat):List (Nat×TB S)->List (Nat×Nat)
 | []=>[]
 |(k,b)::r=>bif fR b&&Nat.blt (pi L k) n then(k,pi L k)::jF L n r else jF L n r
section
variable {B:jc}
theorem Aq{a b:Nat}(h:Nat.beq a b=false):a≠b:=λe=>by subst e;rw[show Nat.beq a a=true from Og a]at h;cases h
theorem dU{β:Type}{q:Nat×β->Bool}{l:List (Nat×β)}(h:l.all q=true){i:Nat}{x:β}(hg:bH l i=some x):q (i,x)=true:=pT.1 h _ (nW hg)
theorem HU{w id:Nat}{b:TB B.S}{x:gD}: ∀{h:List (Nat×TB B.S)},pN h=true->bH h w=some b->bH (eR B w b) id=some x->bH (kC B h) id=none/\bH (mi B h) id=some x
 | [],_,hg,_=>by simp[cV]at hg
 |(k,c)::r,hw,hg,hx=>by
  have hb:=(ff hx).1
  have ho:=(ff hx).2
  obtain⟨o1,o2⟩:=fe ho
  simp only[pN,fi]at hw
  obtain⟨DT,zY⟩:=hw
  simp only[cM]at hg
  simp only[kC,mi,cM]
  split at hg
  ·rename_i e
   cases hg;subst e
   have key: ∀i y,bH r i=some y->fL k i=true:=λi y hi=>by
    have:=dU DT hi
    simp only[lW,hb,cS,fi]at this
    exact this.1.1.1
   rw[dM (by omega),fX]
   constructor
   ·cases hr:bH r id with
    |none=>rfl
    |some y=>rw[key id y hr]at ho;cases ho
   ·rw[cZ,hx]
  ·rename_i eV
   obtain⟨i1,i2⟩:=HU zY hg hx
   have hp:=dU DT hg
   simp only[lW,hb,cS,fi]at hp
   have hk:k≠id:=λe=>by subst e;rw[hp.2.1]at ho;cases ho
   refine⟨by rw[dM hk];exact i1,?_⟩
   rw[cZ]
   split
   ·rename_i y hy
    obtain⟨c1,c2⟩:=ff hy
    obtain⟨c3,c4⟩:=fe c2
    have:=hp.1
    simp only[c1,cS,fi,Pe,tz]at this
    rcases this.2 with h|h
    ·have:=tA h;omega
    ·have:=tA h;omega
   ·exact i2
theorem yr{id:Nat}{x:gD}: ∀{h:List (Nat×TB B.S)},pN h=true->bH (mi B h) id=some x-> ∃w b,bH h w=some b/\bH (eR B w b) id=some x
 | [],_,hx=>by simp[mi,cV]at hx
 |(k,c)::r,hw,hx=>by
  simp only[pN,fi]at hw
  obtain⟨DT,zY⟩:=hw
  simp only[mi]at hx
  rw[cZ]at hx
  split at hx
  ·rename_i y hy
   cases hx
   exact⟨k,c,by simp[cM],hy⟩
  ·obtain⟨w,b,h1,h2⟩:=yr zY hx
   refine⟨w,b,?_,h2⟩
   have hp:=dU DT h1
   simp only[lW,(ff h2).1,cS,fi,p9]at hp
   rw[cM,dM (Aq hp.2.2)];exact h1
theorem gU{s:dP B.S}{id:Nat}{x:gD}(hw:pN s.heap=true)(hx:bH (dl B s).heap id=some x):(∃b,bH s.heap id=some b/\x=fx B b)\/(bH s.heap id=none/\ ∃w b,bH s.heap w=some b/\bH (eR B w b) id=some x):=by
 simp only[dl]at hx
 rw[cZ,fX]at hx
 cases hg:bH s.heap id with
 |some b=>rw[hg]at hx;cases hx;exact .inl ⟨b,rfl,rfl⟩
 |none=>rw[hg]at hx;exact .inr ⟨rfl,yr hw hx⟩
theorem jo{s:dP B.S}{w id:Nat}{b:TB B.S}{x:gD}(hw:pN s.heap=true)(hg:bH s.heap w=some b)(hx:bH (eR B w b) id=some x):bH (dl B s).heap id=some x:=by
 obtain⟨h1,h2⟩:=HU hw hg hx
 simp only[dl]
 rw[cZ,h1];exact h2
theorem lX{w w' id:Nat}{b b':TB B.S}: ∀{h:List (Nat×TB B.S)},pN h=true->bH h w=some b->bH h w'=some b'->fR b=true->fR b'=true->fL w id=false->fL w' id=false->w=w'
 | [],_,hg,_,_,_,_,_=>by simp[cV]at hg
 |(k,c)::r,hw,g1,g2,f1,f2,o1,o2=>by
  simp only[pN,fi]at hw
  obtain⟨DT,zY⟩:=hw
  obtain⟨a1,a2⟩:=fe o1
  obtain⟨a3,a4⟩:=fe o2
  simp only[cM]at g1 g2
  split at g1
  ·rename_i e
   cases g1;subst e
   split at g2
   ·rename_i e;exact e
   ·have hp:=dU DT g2
    simp only[lW,f1,f2,cS,fi,Pe,tz]at hp
    rcases hp.1.2 with h|h
    ·have:=tA h;omega
    ·have:=tA h;omega
  ·split at g2
   ·rename_i e
    cases g2;subst e
    have hp:=dU DT g1
    simp only[lW,f1,f2,cS,fi,Pe,tz]at hp
    rcases hp.1.2 with h|h
    ·have:=tA h;omega
    ·have:=tA h;omega
   ·exact lX zY g1 g2 f1 f2 o1 o2
theorem iJ{w id:Nat}{b b':TB B.S}: ∀{h:List (Nat×TB B.S)},pN h=true->bH h w=some b->bH h id=some b'->fR b=true->fL w id=true
 | [],_,hg,_,_=>by simp[cV]at hg
 |(k,c)::r,hw,g1,g2,f1=>by
  simp only[pN,fi]at hw
  obtain⟨DT,zY⟩:=hw
  have self:fL w w=true:=by unfold fL;rw[U3 (eF w)];rfl
  simp only[cM]at g1 g2
  split at g1
  ·rename_i e
   cases g1;subst e
   split at g2
   ·rename_i e;subst e;exact self
   ·have hp:=dU DT g2
    simp only[lW,f1,cS,fi]at hp
    exact hp.1.1.1
  ·split at g2
   ·rename_i e
    cases g2;subst e
    have hp:=dU DT g1
    simp only[lW,f1,cS,fi]at hp
    exact hp.2.1
   ·exact iJ zY g1 g2 f1
theorem yu{L:List (Nat×Nat)}{n:Nat}{v:Nat×Nat}: ∀{h:List (Nat×TB B.S)},pN h=true->v∈jF L n h->v.2=pi L v.1/\pi L v.1<n/\ ∃b,bH h v.1=some b/\fR b=true
 | [],_,hm=>by simp[jF]at hm
 |(k,b)::r,hw,hm=>by
  simp only[pN,fi]at hw
  obtain⟨DT,zY⟩:=hw
  have tail:v∈jF L n r->v.2=pi L v.1/\pi L v.1<n/\ ∃b',bH ((k,b)::r) v.1=some b'/\fR b'=true:=λhm=>by
   obtain⟨h1,h2,b',h3,h4⟩:=yu zY hm
   refine⟨h1,h2,b',?_,h4⟩
   have hp:=dU DT h3
   simp only[lW,h4,cS,fi,p9]at hp
   rw[cM,dM (Aq hp.2.2)];exact h3
  simp only[jF]at hm
  cases hc:fR b&&Nat.blt (pi L k) n with
  |false=>rw[hc]at hm;exact tail hm
  |true=>
   rw[hc]at hm
   simp only[cS,mU]at hm
   rcases hm with rfl|hm
   ·simp only[fi,rO]at hc
    exact⟨rfl,hc.2,b,by simp[cM],hc.1⟩
   ·exact tail hm
theorem Ck{L:List (Nat×Nat)}{n w:Nat}{b:TB B.S}(hb:fR b=true)(hp:pi L w<n): ∀{h:List (Nat×TB B.S)},bH h w=some b->(w,pi L w)∈jF L n h
 | [],hg=>by simp[cV]at hg
 |(k,c)::r,hg=>by
  simp only[cM]at hg
  simp only[jF]
  split at hg
  ·rename_i e
   cases hg;subst e
   rw[hb,show Nat.blt (pi L k) n=true from JP hp]
   simp
  ·cases fR c&&Nat.blt (pi L k) n
   ·exact Ck hb hp hg
   ·simp only[cS,mU];exact .inr (Ck hb hp hg)
theorem oW{id:Nat}{v:Nat×Nat}: ∀{W:List (Nat×Nat)},tY W id=some v->v∈W/\fL v.1 id=false
 | [],h=>by cases h
 |u::r,h=>by
  simp only[tY]at h
  cases ho:fL u.1 id with
  |true=>rw[ho]at h;exact⟨Jh _ (oW h).1,(oW h).2⟩
  |false=>rw[ho]at h;cases h;exact⟨by simp,ho⟩
theorem yw{id:Nat}: ∀{W:List (Nat×Nat)},(∀v∈W,fL v.1 id=true)->tY W id=none
 | [],_=>rfl
 |u::r,h=>by
  simp only[tY,h u (by simp),cS]
  exact yw λv hv=>h v (by simp[hv])
theorem Bh{id:Nat}: ∀{W:List (Nat×Nat)},tY W id=none-> ∀v∈W,fL v.1 id=true
 | [],_,v,hv=>by simp at hv
 |u::r,h,v,hv=>by
  simp only[tY]at h
  cases hu:fL u.1 id with
  |false=>rw[hu]at h;cases h
  |true=>
   rw[hu]at h
   simp only[mU]at hv
   rcases hv with rfl|hv
   ·exact hu
   ·exact Bh h v hv
theorem kX{L:List (Nat×Nat)}{n id:Nat}{b:TB B.S}{h:List (Nat×TB B.S)}(hw:pN h=true)(hg:bH h id=some b):pw L (jF L n h) id=pi L id:=by
 unfold pw
 rw[yw λv hv=>by
  obtain⟨_,_,b',h1,h2⟩:=yu hw hv
  exact iJ hw h1 hg h2]
theorem Gk{L:List (Nat×Nat)}{n w id:Nat}{b:TB B.S}{h:List (Nat×TB B.S)}(hw:pN h=true)(hg:bH h w=some b)(hb:fR b=true)(hp:pi L w<n)(ho:fL w id=false):pw L (jF L n h) id=pi L w+(id-w):=by
 have hm:=Ck hb hp hg
 unfold pw
 cases hf:tY (jF L n h) id with
 |none=>
  have:=Bh hf _ hm
  simp only at this
  rw[ho]at this;cases this
 |some v=>
  obtain⟨h1,h2⟩:=oW hf
  obtain⟨e1,_,b',g1,f1⟩:=yu hw h1
  have:=lX hw g1 hg f1 hb h2 ho
  simp only[e1,this]
def yx(B:jc)(h:List (Nat×TB B.S))(ok:Nat->Bool)(π:Nat->Nat):Prop:= ∀w b,bH h w=some b-> ∀id x,bH (eR B w b) id=some x->ok id=true/\π id=π w+(id-w)
theorem kY{l:List (ZB B.S)}{i id:Nat}:bH (jO B i l) id=if i<=id then(l[id-i]?).map λz=>L2 (FI B.E z)else none:=by
 induction l generalizing i with
 |nil=>simp[jO,cV]
 |cons z r ih=>
  simp only[jO,cM]
  split
  ·rename_i e;subst e;simp
  ·rename_i eV
   rw[ih]
   by_cases h:i<=id
   ·rw[dD h,dD (by omega),show id-i=(id-(i+1))+1 from by omega];simp
   ·rw[dM h,dM (by omega)]
theorem mw{c w i:Nat}{y:B.S c}{r:List (B.S c)}(h:i<cT):gx B c w i (y::r)=jO B (w+1+B.K c*i) (B.Z c (w+1+B.K c*i) y)++gx B c w (i+1) r:=by
 simp only[gx,JP h,cS]
theorem kZ{c w i:Nat}{y:B.S c}{r:List (B.S c)}(h:i<cT):iK B c w i (y::r)=(B.Y c (w+1+B.K c*i) y).er B.E::iK B c w (i+1) r:=by
 simp only[iK,JP h,cS]
theorem Pf{i n:Nat}(h: ¬i<n):Nat.blt i n=false:=by
 cases hq:Nat.blt i n with
 |false=>rfl
 |true=>exact absurd (Z0 hq) h
theorem qZ{c r:Nat}{y:B.S c}{j:Nat}(hj:j<B.K c): ∃x,bH (jO B r (B.Z c r y)) (r+j)=some x:=by
 rw[kY,dD (by omega),show r+j-r=j from by omega,dH (by rw[(B.hF c).hz];exact hj)]
 exact⟨_,rfl⟩
theorem re{c w w':Nat}{ok:Nat->Bool}{π:Nat->Nat}: ∀{l:List (B.S c)}{i:Nat},(∀id x,bH (gx B c w i l) id=some x->ok id=true/\π id=w'+(id-w))->sw ok π (iK B c w i l) (iK B c w' i l)
 | [],i,_=>.z
 |y::r,i,h=>by
  by_cases hi:i<cT
  ·rw[kZ hi,kZ hi]
   rw[mw hi]at h
   refine .k ((B.hF c).hr ok π _ _ y λj hj=>?_).1 (re λid x hx=>?_)
   ·obtain⟨x,hx⟩:=qZ (r:=w+1+B.K c*i) (y:=y) hj
    obtain⟨h1,h2⟩:=h _ x (by rw[cZ,hx])
    exact⟨h1,by rw[h2];omega⟩
   ·cases hq:bH (jO B (w+1+B.K c*i) (B.Z c (w+1+B.K c*i) y)) id with
    |none=>exact h id x (by rw[cZ,hq];exact hx)
    |some x'=>exact h id x' (by rw[cZ,hq])
  ·have e: ∀v,iK B c v i (y::r)=[]:=λv=>by simp only[iK,Pf hi,dj]
   rw[e,e];exact .z
theorem ua{c w w':Nat}{ok:Nat->Bool}{π:Nat->Nat}: ∀{l:List (B.S c)}{i:Nat},(∀id x,bH (gx B c w i l) id=some x->ok id=true/\π id=w'+(id-w))->
  ∀id x,bH (gx B c w i l) id=some x-> ∃x',bH (gx B c w' i l) (w'+(id-w))=some x'/\Bd ok π x x'
 | [],i,_,id,x,hx=>by simp[gx,cV]at hx
 |y::r,i,h,id,x,hx=>by
  by_cases hi:i<cT
  ·have eZ:=(fe (oX hx)).1
   rw[mw hi]at h hx |-
   have hz:=(B.hF c).hz
   have Jn:=(B.hF c).hr ok π (w+1+B.K c*i) (w'+1+B.K c*i) y λj hj=>by
    obtain⟨x,hx⟩:=qZ (r:=w+1+B.K c*i) (y:=y) hj
    obtain⟨h1,h2⟩:=h _ x (by rw[cZ,hx])
    exact⟨h1,by rw[h2];omega⟩
   rw[cZ]at hx |-
   cases hq:bH (jO B (w+1+B.K c*i) (B.Z c (w+1+B.K c*i) y)) id with
   |some x0=>
    rw[hq]at hx;cases hx
    rw[kY]at hq
    split at hq
    ·rename_i eE
     obtain⟨z,HV,Gl⟩:=Hy.1 hq
     have hl:id-(w+1+B.K c*i)<B.K c:=by have h:=(fP.1 HV).1;rw[hz]at h;exact h
     have hz3:(B.Z c (w'+1+B.K c*i) y)[id-(w+1+B.K c*i)]? =some ((B.Z c (w'+1+B.K c*i) y)[id-(w+1+B.K c*i)]'(by rw[hz];exact hl)):=dH _
     refine⟨_,?_,by rw[<-Gl];exact Jn.2 _ _ _ HV hz3⟩
     rw[kY,dD (by omega),show w'+(id-w)-(w'+1+B.K c*i)=id-(w+1+B.K c*i)from by omega,hz3]
     rfl
    ·cases hq
   |none=>
    rw[hq]at hx
    have e:bH (jO B (w'+1+B.K c*i) (B.Z c (w'+1+B.K c*i) y)) (w'+(id-w))=none:=by
     rw[kY]at hq |-
     split
     ·rename_i eE
      rw[dD (by omega)]at hq
      have hl: ¬id-(w+1+B.K c*i)<B.K c:=λhl=>by
       rw[dH (by rw[hz];exact hl)]at hq;cases hq
      rw[List.getElem?_eq_none (by rw[hz];omega)];rfl
     ·rfl
    rw[e]
    refine ua (λZ1 x2 QX=>?_) id x hx
    cases JQ:bH (jO B (w+1+B.K c*i) (B.Z c (w+1+B.K c*i) y)) Z1 with
    |none=>exact h Z1 x2 (by rw[cZ,JQ];exact QX)
    |some x'=>exact h Z1 x' (by rw[cZ,JQ])
  ·simp only[gx,Pf hi,dj]at hx
   simp[cV]at hx
theorem ub{c w w' n:Nat}{cl:Bool}{pre post:List (B.S c)}{ok:Nat->Bool}{π:Nat->Nat}(h: ∀id x,bH (eR B w (.fr c cl pre n post)) id=some x->ok id=true/\π id=w'+(id-w))(id:Nat)(x:gD)(hx:bH (eR B w (.fr c cl pre n post)) id=some x):
  ∃x',bH (eR B w' (.fr c cl pre n post)) (w'+(id-w))=some x'/\Bd ok π x x':=by
 simp only[eR]at h hx |-
 cases cl with
 |true=>
  simp only[cS,rN]at h hx |-
  exact ua h id x hx
 |false=>
  simp only[dj]at h hx |-
  rw[cZ]at hx |-
  have kw: ∀id x,bH (gx B c w 0 pre) id=some x->ok id=true/\π id=w'+(id-w):=λid x hx=>h id x (by rw[cZ,hx])
  have iP: ∀id x,bH (gx B c w (pre.length+n) post) id=some x->ok id=true/\π id=w'+(id-w):=λid x hx=>by
   cases hq:bH (gx B c w 0 pre) id with
   |some y=>exact kw id y hq
   |none=>exact h id x (by rw[cZ,hq];exact hx)
  cases hq:bH (gx B c w 0 pre) id with
  |some x0=>
   rw[hq]at hx;cases hx
   obtain⟨x',h1,h2⟩:=ua kw id x hq
   exact⟨x',by rw[h1],h2⟩
  |none=>
   rw[hq]at hx
   obtain⟨x',h1,h2⟩:=ua iP id x hx
   have:bH (gx B c w' 0 pre) (w'+(id-w))=none:=by
    cases hc:bH (gx B c w' 0 pre) (w'+(id-w))with
    |none=>rfl
    |some z=>
     exfalso
     have eZ:=(fe (oX hx)).1
     obtain⟨z',hz,_⟩:=ua (w:=w') (w':=w) (ok:=λ_=>true) (π:=λi=>w+(i-w')) (λ_ _ _=>⟨rfl,rfl⟩) _ z hc
     rw[show w+(w'+(id-w)-w')=id from by omega,hq]at hz;cases hz
   rw[this]
   exact⟨x',h1,h2⟩
theorem map_inj{c:Nat}(hk:0<B.K c): ∀{x y:List (B.S c)},x.map (B.E c)=y.map (B.E c)->x=y
 | [],[],_=>rfl
 | [],_::_,h=>by cases h
 |_::_,[],h=>by cases h
 |a::x,b::y,h=>by
  simp only[xb,List.cons.injEq]at h
  rw[(B.hF c).hi hk _ _ h.1,map_inj hk h.2]
theorem lH{b:TB B.S}(h:fR b=true): ∃c cl pre n post,b=.fr c cl pre n post:=by
 cases b<;>first|exact⟨_,_,_,_,_,rfl⟩|cases h
theorem yy{c w:Nat}{l:List (B.S c)}{i id:Nat}:bH (gx B c w i l) id≠some .gr:=λh=>by
 obtain⟨j,y,_,_,_,h4⟩:=uc h
 obtain⟨_,_,z,_,h5⟩:=ud h4
 cases h5
theorem nZ{w id:Nat}{b:TB B.S}(h:bH (eR B w b) id=some .gr):False:=by
 unfold eR at h
 split at h
 ·rename_i c cl pre n post
  rw[cZ]at h
  split at h
  ·rename_i x hx
   cases h
   cases cl with
   |true=>simp[cV]at hx
   |false=>exact yy hx
  ·exact yy h
 ·simp[cV]at h
end
end Go.Am
