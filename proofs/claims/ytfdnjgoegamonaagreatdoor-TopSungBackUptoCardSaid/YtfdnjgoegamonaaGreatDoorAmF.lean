/- The logic AM, F: the names of families of blocks. -/
import Derived.Test.YtfdnjgoegamonaaGreatDoorAmX
set_option linter.all false
namespace Go.Am
open Go.RowKit
def uB:List (Nat×Nat)->Nat->Option (Nat×Nat)
 | [],_=>none
 |v::r,id=>bif gb v.1 id then uB r id else some v
def pw(L W:List (Nat×Nat))(id:Nat):Nat:=match uB W id with
 |some v=>v.2+(id-v.1)
 |none=>pi L id
theorem fi{w id:Nat}(h:gb w id=false):w<id/\id<w+sH:=by
 unfold gb at h;rw[JQ]at h;obtain⟨h1,h2⟩:=h;constructor
 ·apply Nat.lt_of_not_le;intro h;rw[VY h]at h1;cases h1
 ·apply Nat.lt_of_not_le;intro h;rw[VY h]at h2;cases h2
theorem lQ{w id:Nat}(h1:w<id)(h2:id<w+sH):gb w id=false:=by
 cases hq:gb w id with
 |false=>rfl
 |true=>
  unfold gb at hq;rw[tY]at hq;rcases hq with h|h
  ·have:=tR h;omega
  ·have:=tR h;omega
def Qm(a b:Nat):Bool:=Nat.ble (a+sH) b||Nat.ble (b+sH) a
def mz{S:Nat->Type}(k:Nat)(b:TB S)(k':Nat)(b':TB S):Bool:=
 (bif gm b then gb k k'&&!(Nat.beq k k')&&(bif gm b' then Qm k k' else true)else true)&&(bif gm b' then gb k' k&&!(Nat.beq k k')else true)
def pz{S:Nat->Type}:List (Nat×TB S)->Bool
 | []=>true
 |(k,b)::r=>(r.all λq=>mz k b q.1 q.2)&&pz r
def zg{S:Nat->Type}(n:Nat)(h:List (Nat×TB S)):Bool:=h.all λp=>!(gm p.2)||Nat.ble (p.1+sH) n
def jN{S:Nat->Type}(L:List (Nat×Nat))(n:Nat):List (Nat×TB S)->List (Nat×Nat)
 | []=>[]
 |(k,b)::r=>bif gm b&&Nat.blt (pi L k) n then(k,pi L k)::jN L n r else jN L n r
section
variable {B:jg}
theorem Bb{a b:Nat}(h:Nat.beq a b=false):a≠b:=λe=>by subst e;rw[show Nat.beq a a=true from O0 a]at h;cases h
theorem dV{β:Type}{q:Nat×β->Bool}{l:List (Nat×β)}(h:l.all q=true){i:Nat}{x:β}(hg:bJ l i=some x):q (i,x)=true:=pA.1 h _ (oR hg)
theorem IU{w id:Nat}{b:TB B.S}{x:gU}: ∀{h:List (Nat×TB B.S)},pz h=true->bJ h w=some b->bJ (eX B w b) id=some x->bJ (kP B h) id=none/\bJ (mN B h) id=some x
 | [],_,hg,_=>by simp[di]at hg
 |(k,c)::r,hw,hg,hx=>by
  have hb:=(fh hx).1;have ho:=(fh hx).2;obtain⟨o1,o2⟩:=fi ho;simp only[pz,fE]at hw;obtain⟨GN,Kh⟩:=hw;simp only[cZ]at hg;simp only[kP,mN,cZ];split at hg
  ·rename_i e;cases hg;subst e;have key: ∀i y,bJ r i=some y->gb k i=true:=λi y hi=>by
    have:=dV GN hi;simp only[mz,hb,dt,fE]at this;exact this.1.1.1
   rw[dY (by omega),gi];constructor
   ·cases hr:bJ r id with
    |none=>rfl
    |some y=>rw[key id y hr]at ho;cases ho
   ·rw[dp,hx]
  ·rename_i eU;obtain⟨i1,i2⟩:=IU Kh hg hx;have hp:=dV GN hg;simp only[mz,hb,dt,fE]at hp;have hk:k≠id:=λe=>by subst e;rw[hp.2.1]at ho;cases ho
   refine⟨by rw[dY hk];exact i1,?_⟩;rw[dp];split
   ·rename_i y hy;obtain⟨c1,c2⟩:=fh hy;obtain⟨c3,c4⟩:=fi c2;have:=hp.1;simp only[c1,dt,fE,Qm,tY]at this;rcases this.2 with h|h
    ·have:=tR h;omega
    ·have:=tR h;omega
   ·exact i2
theorem zh{id:Nat}{x:gU}: ∀{h:List (Nat×TB B.S)},pz h=true->bJ (mN B h) id=some x-> ∃w b,bJ h w=some b/\bJ (eX B w b) id=some x
 | [],_,hx=>by simp[mN,di]at hx
 |(k,c)::r,hw,hx=>by
  simp only[pz,fE]at hw;obtain⟨GN,Kh⟩:=hw;simp only[mN]at hx;rw[dp]at hx;split at hx
  ·rename_i y hy;cases hx;exact⟨k,c,by simp[cZ],hy⟩
  ·obtain⟨w,b,h1,h2⟩:=zh Kh hx;refine⟨w,b,?_,h2⟩;have hp:=dV GN h1;simp only[mz,(fh h2).1,dt,fE,qn]at hp;rw[cZ,dY (Bb hp.2.2)];exact h1
theorem gS{s:dZ B.S}{id:Nat}{x:gU}(hw:pz s.heap=true)(hx:bJ (dA B s).heap id=some x):(∃b,bJ s.heap id=some b/\x=fS B b)\/(bJ s.heap id=none/\ ∃w b,bJ s.heap w=some b/\bJ (eX B w b) id=some x):=by
 simp only[dA]at hx;rw[dp,gi]at hx;cases hg:bJ s.heap id with
 |some b=>rw[hg]at hx;cases hx;exact .inl ⟨b,rfl,rfl⟩
 |none=>rw[hg]at hx;exact .inr ⟨rfl,zh hw hx⟩
theorem jm{s:dZ B.S}{w id:Nat}{b:TB B.S}{x:gU}(hw:pz s.heap=true)(hg:bJ s.heap w=some b)(hx:bJ (eX B w b) id=some x):bJ (dA B s).heap id=some x:=by
 obtain⟨h1,h2⟩:=IU hw hg hx;simp only[dA];rw[dp,h1];exact h2
theorem mA{w w' id:Nat}{b b':TB B.S}: ∀{h:List (Nat×TB B.S)},pz h=true->bJ h w=some b->bJ h w'=some b'->gm b=true->gm b'=true->gb w id=false->gb w' id=false->w=w'
 | [],_,hg,_,_,_,_,_=>by simp[di]at hg
 |(k,c)::r,hw,g1,g2,f1,f2,o1,o2=>by
  simp only[pz,fE]at hw;obtain⟨GN,Kh⟩:=hw;obtain⟨a1,a2⟩:=fi o1;obtain⟨a3,a4⟩:=fi o2;simp only[cZ]at g1 g2;split at g1
  ·rename_i e;cases g1;subst e;split at g2
   ·rename_i e;exact e
   ·have hp:=dV GN g2;simp only[mz,f1,f2,dt,fE,Qm,tY]at hp;rcases hp.1.2 with h|h
    ·have:=tR h;omega
    ·have:=tR h;omega
  ·split at g2
   ·rename_i e;cases g2;subst e;have hp:=dV GN g1;simp only[mz,f1,f2,dt,fE,Qm,tY]at hp;rcases hp.1.2 with h|h
    ·have:=tR h;omega
    ·have:=tR h;omega
   ·exact mA Kh g1 g2 f1 f2 o1 o2
theorem iV{w id:Nat}{b b':TB B.S}: ∀{h:List (Nat×TB B.S)},pz h=true->bJ h w=some b->bJ h id=some b'->gm b=true->gb w id=true
 | [],_,hg,_,_=>by simp[di]at hg
 |(k,c)::r,hw,g1,g2,f1=>by
  simp only[pz,fE]at hw;obtain⟨GN,Kh⟩:=hw;have self:gb w w=true:=by unfold gb;rw[VY (eD w)];rfl
  simp only[cZ]at g1 g2;split at g1
  ·rename_i e;cases g1;subst e;split at g2
   ·rename_i e;subst e;exact self
   ·have hp:=dV GN g2;simp only[mz,f1,dt,fE]at hp;exact hp.1.1.1
  ·split at g2
   ·rename_i e;cases g2;subst e;have hp:=dV GN g1;simp only[mz,f1,dt,fE]at hp;exact hp.2.1
   ·exact iV Kh g1 g2 f1
theorem zi{L:List (Nat×Nat)}{n:Nat}{v:Nat×Nat}: ∀{h:List (Nat×TB B.S)},pz h=true->v∈jN L n h->v.2=pi L v.1/\pi L v.1<n/\ ∃b,bJ h v.1=some b/\gm b=true
 | [],_,hm=>by simp[jN]at hm
 |(k,b)::r,hw,hm=>by
  simp only[pz,fE]at hw;obtain⟨GN,Kh⟩:=hw;have tail:v∈jN L n r->v.2=pi L v.1/\pi L v.1<n/\ ∃b',bJ ((k,b)::r) v.1=some b'/\gm b'=true:=λhm=>by
   obtain⟨h1,h2,b',h3,h4⟩:=zi Kh hm;refine⟨h1,h2,b',?_,h4⟩;have hp:=dV GN h3;simp only[mz,h4,dt,fE,qn]at hp;rw[cZ,dY (Bb hp.2.2)];exact h3
  simp only[jN]at hm;cases hc:gm b&&Nat.blt (pi L k) n with
  |false=>rw[hc]at hm;exact tail hm
  |true=>
   rw[hc]at hm;simp only[dt,mZ]at hm;rcases hm with rfl|hm
   ·simp only[fE,ru]at hc;exact⟨rfl,hc.2,b,by simp[cZ],hc.1⟩
   ·exact tail hm
theorem C0{L:List (Nat×Nat)}{n w:Nat}{b:TB B.S}(hb:gm b=true)(hp:pi L w<n): ∀{h:List (Nat×TB B.S)},bJ h w=some b->(w,pi L w)∈jN L n h
 | [],hg=>by simp[di]at hg
 |(k,c)::r,hg=>by
  simp only[cZ]at hg;simp only[jN];split at hg
  ·rename_i e;cases hg;subst e;rw[hb,show Nat.blt (pi L k) n=true from Kp hp];simp
  ·cases gm c&&Nat.blt (pi L k) n
   ·exact C0 hb hp hg
   ·simp only[dt,mZ];exact .inr (C0 hb hp hg)
theorem pR{id:Nat}{v:Nat×Nat}: ∀{W:List (Nat×Nat)},uB W id=some v->v∈W/\gb v.1 id=false
 | [],h=>by cases h
 |u::r,h=>by
  simp only[uB]at h;cases ho:gb u.1 id with
  |true=>rw[ho]at h;exact⟨JO _ (pR h).1,(pR h).2⟩
  |false=>rw[ho]at h;cases h;exact⟨by simp,ho⟩
theorem zl{id:Nat}: ∀{W:List (Nat×Nat)},(∀v∈W,gb v.1 id=true)->uB W id=none
 | [],_=>rfl
 |u::r,h=>by
  simp only[uB,h u (by simp),dt];exact zl λv hv=>h v (by simp[hv])
theorem BK{id:Nat}: ∀{W:List (Nat×Nat)},uB W id=none-> ∀v∈W,gb v.1 id=true
 | [],_,v,hv=>by simp at hv
 |u::r,h,v,hv=>by
  simp only[uB]at h;cases hu:gb u.1 id with
  |false=>rw[hu]at h;cases h
  |true=>
   rw[hu]at h;simp only[mZ]at hv;rcases hv with rfl|hv
   ·exact hu
   ·exact BK h v hv
theorem lE{L:List (Nat×Nat)}{n id:Nat}{b:TB B.S}{h:List (Nat×TB B.S)}(hw:pz h=true)(hg:bJ h id=some b):pw L (jN L n h) id=pi L id:=by
 unfold pw;rw[zl λv hv=>by
  obtain⟨_,_,b',h1,h2⟩:=zi hw hv;exact iV hw h1 hg h2]
theorem Hm{L:List (Nat×Nat)}{n w id:Nat}{b:TB B.S}{h:List (Nat×TB B.S)}(hw:pz h=true)(hg:bJ h w=some b)(hb:gm b=true)(hp:pi L w<n)(ho:gb w id=false):pw L (jN L n h) id=pi L w+(id-w):=by
 have hm:=C0 hb hp hg;unfold pw;cases hf:uB (jN L n h) id with
 |none=>
  have:=BK hf _ hm;simp only at this;rw[ho]at this;cases this
 |some v=>
  obtain⟨h1,h2⟩:=pR hf;obtain⟨e1,_,b',g1,f1⟩:=zi hw h1;have:=mA hw g1 hg f1 hb h2 ho;simp only[e1,this]
def zm(B:jg)(h:List (Nat×TB B.S))(ok:Nat->Bool)(π:Nat->Nat):Prop:= ∀w b,bJ h w=some b-> ∀id x,bJ (eX B w b) id=some x->ok id=true/\π id=π w+(id-w)
theorem kE{l:List (ZB B.S)}{i id:Nat}:bJ (j0 B i l) id=if i<=id then(l[id-i]?).map λz=>MC (Gk B.E z)else none:=by
 induction l generalizing i with
 |nil=>simp[j0,di]
 |cons z r ih=>
  simp only[j0,cZ];split
  ·rename_i e;subst e;simp
  ·rename_i eU;rw[ih];by_cases h:i<=id
   ·rw[dP h,dP (by omega),show id-i=(id-(i+1))+1 from by omega];simp
   ·rw[dY h,dY (by omega)]
theorem lF{c w i:Nat}{y:B.S c}{r:List (B.S c)}(h:i<cU):gy B c w i (y::r)=j0 B (w+1+B.K c*i) (B.Z c (w+1+B.K c*i) y)++gy B c w (i+1) r:=by
 simp only[gy,Kp h,dt]
theorem kF{c w i:Nat}{y:B.S c}{r:List (B.S c)}(h:i<cU):iE B c w i (y::r)=(B.Y c (w+1+B.K c*i) y).er B.E::iE B c w (i+1) r:=by
 simp only[iE,Kp h,dt]
theorem Na{i n:Nat}(h: ¬i<n):Nat.blt i n=false:=by
 cases hq:Nat.blt i n with
 |false=>rfl
 |true=>exact absurd (aau hq) h
theorem rW{c r:Nat}{y:B.S c}{j:Nat}(hj:j<B.K c): ∃x,bJ (j0 B r (B.Z c r y)) (r+j)=some x:=by
 rw[kE,dP (by omega),show r+j-r=j from by omega,dR (by rw[(B.hF c).hz];exact hj)];exact⟨_,rfl⟩
theorem rX{c w w':Nat}{ok:Nat->Bool}{π:Nat->Nat}: ∀{l:List (B.S c)}{i:Nat},(∀id x,bJ (gy B c w i l) id=some x->ok id=true/\π id=w'+(id-w))->sF ok π (iE B c w i l) (iE B c w' i l)
 | [],i,_=>.z
 |y::r,i,h=>by
  by_cases hi:i<cU
  ·rw[kF hi,kF hi];rw[lF hi]at h;refine .k ((B.hF c).hr ok π _ _ y λj hj=>?_).1 (rX λid x hx=>?_)
   ·obtain⟨x,hx⟩:=rW (r:=w+1+B.K c*i) (y:=y) hj;obtain⟨h1,h2⟩:=h _ x (by rw[dp,hx]);exact⟨h1,by rw[h2];omega⟩
   ·cases hq:bJ (j0 B (w+1+B.K c*i) (B.Z c (w+1+B.K c*i) y)) id with
    |none=>exact h id x (by rw[dp,hq];exact hx)
    |some x'=>exact h id x' (by rw[dp,hq])
  ·have e: ∀v,iE B c v i (y::r)=[]:=λv=>by simp only[iE,Na hi,dD]
   rw[e,e];exact .z
theorem uC{c w w':Nat}{ok:Nat->Bool}{π:Nat->Nat}: ∀{l:List (B.S c)}{i:Nat},(∀id x,bJ (gy B c w i l) id=some x->ok id=true/\π id=w'+(id-w))->
  ∀id x,bJ (gy B c w i l) id=some x-> ∃x',bJ (gy B c w' i l) (w'+(id-w))=some x'/\A0 ok π x x'
 | [],i,_,id,x,hx=>by simp[gy,di]at hx
 |y::r,i,h,id,x,hx=>by
  by_cases hi:i<cU
  ·have fB:=(fi (pQ hx)).1;rw[lF hi]at h hx |-
   have hz:=(B.hF c).hz;have JU:=(B.hF c).hr ok π (w+1+B.K c*i) (w'+1+B.K c*i) y λj hj=>by
    obtain⟨x,hx⟩:=rW (r:=w+1+B.K c*i) (y:=y) hj;obtain⟨h1,h2⟩:=h _ x (by rw[dp,hx]);exact⟨h1,by rw[h2];omega⟩
   rw[dp]at hx |-
   cases hq:bJ (j0 B (w+1+B.K c*i) (B.Z c (w+1+B.K c*i) y)) id with
   |some x0=>
    rw[hq]at hx;cases hx;rw[kE]at hq;split at hq
    ·rename_i eP;obtain⟨z,IV,DV⟩:=D5.1 hq;have hl:id-(w+1+B.K c*i)<B.K c:=by have h:=(fT.1 IV).1;rw[hz]at h;exact h
     have hz3:(B.Z c (w'+1+B.K c*i) y)[id-(w+1+B.K c*i)]? =some ((B.Z c (w'+1+B.K c*i) y)[id-(w+1+B.K c*i)]'(by rw[hz];exact hl)):=dR _;refine⟨_,?_,by rw[<-DV];exact JU.2 _ _ _ IV hz3⟩;rw[kE,dP (by omega),show w'+(id-w)-(w'+1+B.K c*i)=id-(w+1+B.K c*i)from by omega,hz3];rfl
    ·cases hq
   |none=>
    rw[hq]at hx;have e:bJ (j0 B (w'+1+B.K c*i) (B.Z c (w'+1+B.K c*i) y)) (w'+(id-w))=none:=by
     rw[kE]at hq |-
     split
     ·rename_i eP;rw[dP (by omega)]at hq;have hl: ¬id-(w+1+B.K c*i)<B.K c:=λhl=>by
       rw[dR (by rw[hz];exact hl)]at hq;cases hq
      rw[List.getElem?_eq_none (by rw[hz];omega)];rfl
     ·rfl
    rw[e];refine uC (λid2 x2 RL=>?_) id x hx;cases Kw:bJ (j0 B (w+1+B.K c*i) (B.Z c (w+1+B.K c*i) y)) id2 with
    |none=>exact h id2 x2 (by rw[dp,Kw];exact RL)
    |some x'=>exact h id2 x' (by rw[dp,Kw])
  ·simp only[gy,Na hi,dD]at hx;simp[di]at hx
theorem uD{c w w' n:Nat}{cl:Bool}{pre post:List (B.S c)}{ok:Nat->Bool}{π:Nat->Nat}(h: ∀id x,bJ (eX B w (.fr c cl pre n post)) id=some x->ok id=true/\π id=w'+(id-w))(id:Nat)(x:gU)(hx:bJ (eX B w (.fr c cl pre n post)) id=some x):
  ∃x',bJ (eX B w' (.fr c cl pre n post)) (w'+(id-w))=some x'/\A0 ok π x x':=by
 simp only[eX]at h hx |-
 cases cl with
 |true=>
  simp only[dt,sA]at h hx |-
  exact uC h id x hx
 |false=>
  simp only[dD]at h hx |-
  rw[dp]at hx |-
  have kO: ∀id x,bJ (gy B c w 0 pre) id=some x->ok id=true/\π id=w'+(id-w):=λid x hx=>h id x (by rw[dp,hx]);have jz: ∀id x,bJ (gy B c w (pre.length+n) post) id=some x->ok id=true/\π id=w'+(id-w):=λid x hx=>by
   cases hq:bJ (gy B c w 0 pre) id with
   |some y=>exact kO id y hq
   |none=>exact h id x (by rw[dp,hq];exact hx)
  cases hq:bJ (gy B c w 0 pre) id with
  |some x0=>
   rw[hq]at hx;cases hx;obtain⟨x',h1,h2⟩:=uC kO id x hq;exact⟨x',by rw[h1],h2⟩
  |none=>
   rw[hq]at hx;obtain⟨x',h1,h2⟩:=uC jz id x hx;have:bJ (gy B c w' 0 pre) (w'+(id-w))=none:=by
    cases hc:bJ (gy B c w' 0 pre) (w'+(id-w))with
    |none=>rfl
    |some z=>
     exfalso;have fB:=(fi (pQ hx)).1;obtain⟨z',hz,_⟩:=uC (w:=w') (w':=w) (ok:=λ_=>true) (π:=λi=>w+(i-w')) (λ_ _ _=>⟨rfl,rfl⟩) _ z hc;rw[show w+(w'+(id-w)-w')=id from by omega,hq]at hz;cases hz
   rw[this];exact⟨x',h1,h2⟩
theorem map_inj{c:Nat}(hk:0<B.K c): ∀{x y:List (B.S c)},x.map (B.E c)=y.map (B.E c)->x=y
 | [],[],_=>rfl
 | [],_::_,h=>by cases h
 |_::_,[],h=>by cases h
 |a::x,b::y,h=>by
  simp only[wy,List.cons.injEq]at h;rw[(B.hF c).hi hk _ _ h.1,map_inj hk h.2]
theorem lZ{b:TB B.S}(h:gm b=true): ∃c cl pre n post,b=.fr c cl pre n post:=by
 cases b<;>first|exact⟨_,_,_,_,_,rfl⟩|cases h
theorem zn{c w:Nat}{l:List (B.S c)}{i id:Nat}:bJ (gy B c w i l) id≠some .gK:=λh=>by
 obtain⟨j,y,_,_,_,h4⟩:=uv h;obtain⟨_,_,z,_,h5⟩:=uu h4;cases h5
theorem nr{w id:Nat}{b:TB B.S}(h:bJ (eX B w b) id=some .gK):False:=by
 unfold eX at h;split at h
 ·rename_i c cl pre n post;rw[dp]at h;split at h
  ·rename_i x hx;cases h;cases cl with
   |true=>simp[di]at hx
   |false=>exact zn hx
  ·exact zn h
 ·simp[di]at h
end
end Go.Am
