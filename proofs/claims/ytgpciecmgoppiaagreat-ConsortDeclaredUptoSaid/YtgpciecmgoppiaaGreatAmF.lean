/- The logic AM, F: the names of families of blocks. -/
import Derived.Test.YtgpciecmgoppiaaGreatAmX
set_option linter.all false
namespace Go.Am
open Go.RowKit
def uo:List (Nat×Nat)->Nat->Option (Nat×Nat)
 | [],_=>none
 |v::r,id=>bif fV v.1 id then uo r id else some v
def pw(L W:List (Nat×Nat))(id:Nat):Nat:=match uo W id with
 |some v=>v.2+(id-v.1)
 |none=>pi L id
theorem fB{w id:Nat}(h:fV w id=false):w<id/\id<w+vF:=by
 unfold fV at h
 grind [Nat.ble_eq_true_of_le]
theorem lT{w id:Nat}(h1:w<id)(h2:id<w+vF):fV w id=false:=by
 cases hq:fV w id with
 |false=>rfl
 |true=>
  unfold fV at hq;rw[vm]at hq;rcases hq with h|h
  ·have:=vd h;omega
  ·have:=vd h;omega
def QY(a b:Nat):Bool:=Nat.ble (a+vF) b||Nat.ble (b+vF) a
def mz{S:Nat->Type}(k:Nat)(b:TB S)(k':Nat)(b':TB S):Bool:=
 (bif gi b then fV k k'&&!(Nat.beq k k')&&(bif gi b' then QY k k' else true)else true)&&(bif gi b' then fV k' k&&!(Nat.beq k k')else true)
def pP{S:Nat->Type}:List (Nat×TB S)->Bool
 | []=>true
 |(k,b)::r=>(r.all λq=>mz k b q.1 q.2)&&pP r
def Bs{S:Nat->Type}(n:Nat)(h:List (Nat×TB S)):Bool:=h.all λp=>!(gi p.2)||Nat.ble (p.1+vF) n
def jI{S:Nat->Type}(L:List (Nat×Nat))(n:Nat):List (Nat×TB S)->List (Nat×Nat)
 | []=>[]
 |(k,b)::r=>bif gi b&&Nat.blt (pi L k) n then(k,pi L k)::jI L n r else jI L n r
section
variable {B:iU}
theorem AH{a b:Nat}(h:Nat.beq a b=false):a≠b:=λe=>by simp_all
theorem dR{β:Type}{q:Nat×β->Bool}{l:List (Nat×β)}(h:l.all q=true){i:Nat}{x:β}(hg:bn l i=some x):q (i,x)=true:=qc.1 h _ (kR hg)
theorem IX{w id:Nat}{b:TB B.S}{x:gM}: ∀{h:List (Nat×TB B.S)},pP h=true->bn h w=some b->bn (eP B w b) id=some x->bn (kS B h) id=none/\bn (mN B h) id=some x
 | [],_,hg,_=>by simp[df]at hg
 |(k,c)::r,hw,hg,hx=>by
  have hb:=(fc hx).1;have ho:=(fc hx).2;obtain⟨o1,o2⟩:=fB ho;simp only[pP,eU]at hw;obtain⟨DY,Kv⟩:=hw;simp only[cG]at hg;simp only[kS,mN,cG];split at hg
  ·rename_i e;cases hg;subst e;have key: ∀i y,bn r i=some y->fV k i=true:=λi y hi=>by
    have:=dR DY hi;simp only[mz,hb,cP,eU]at this
    grind
   rw[fN (by omega),gv];constructor
   ·cases hr:bn r id with
    |none=>rfl
    |some y=>grind
   ·rw[cX,hx]
  ·rename_i fG;obtain⟨i1,i2⟩:=IX Kv hg hx;have hp:=dR DY hg;simp only[mz,hb,cP,eU]at hp;have hk:k≠id:=λe=>by grind
   refine⟨by grind,?_⟩;rw[cX];split
   ·rename_i y hy;obtain⟨c1,c2⟩:=fc hy;obtain⟨c3,c4⟩:=fB c2;have:=hp.1;simp only[c1,cP,eU,QY,vm]at this;rcases this.2 with h|h
    ·have:=vd h;omega
    ·have:=vd h;omega
   ·exact i2
theorem yW{id:Nat}{x:gM}: ∀{h:List (Nat×TB B.S)},pP h=true->bn (mN B h) id=some x-> ∃w b,bn h w=some b/\bn (eP B w b) id=some x
 | [],_,hx=>by simp[mN,df]at hx
 |(k,c)::r,hw,hx=>by
  simp only[pP,eU]at hw;obtain⟨DY,Kv⟩:=hw;simp only[mN]at hx;rw[cX]at hx;split at hx
  ·grind [cG]
  ·obtain⟨w,b,h1,h2⟩:=yW Kv hx;refine⟨w,b,?_,h2⟩;have hp:=dR DY h1;simp only[mz,(fc h2).1,cP,eU,sr]at hp;simp_all[cG,AH]
theorem ie{s:dH B.S}{id:Nat}{x:gM}(hw:pP s.heap=true)(hx:bn (db B s).heap id=some x):(∃b,bn s.heap id=some b/\x=fT B b)\/(bn s.heap id=none/\ ∃w b,bn s.heap w=some b/\bn (eP B w b) id=some x):=by
 simp only[db]at hx;rw[cX,gv]at hx;cases hg:bn s.heap id with
 |some b=>grind
 |none=>grind [yW]
theorem js{s:dH B.S}{w id:Nat}{b:TB B.S}{x:gM}(hw:pP s.heap=true)(hg:bn s.heap w=some b)(hx:bn (eP B w b) id=some x):bn (db B s).heap id=some x:=by
 obtain⟨h1,h2⟩:=IX hw hg hx;simp only[db]
 grind [cX]
theorem mA{w w' id:Nat}{b b':TB B.S}: ∀{h:List (Nat×TB B.S)},pP h=true->bn h w=some b->bn h w'=some b'->gi b=true->gi b'=true->fV w id=false->fV w' id=false->w=w'
 | [],_,hg,_,_,_,_,_=>by simp[df]at hg
 |(k,c)::r,hw,g1,g2,f1,f2,o1,o2=>by
  simp only[pP,eU]at hw;obtain⟨DY,Kv⟩:=hw;obtain⟨a1,a2⟩:=fB o1;obtain⟨a3,a4⟩:=fB o2;simp only[cG]at g1 g2;split at g1
  ·rename_i e;cases g1;subst e;split at g2
   ·grind
   ·have hp:=dR DY g2;simp only[mz,f1,f2,cP,eU,QY,vm]at hp;rcases hp.1.2 with h|h
    ·have:=vd h;omega
    ·have:=vd h;omega
  ·split at g2
   ·rename_i e;cases g2;subst e;have hp:=dR DY g1;simp only[mz,f1,f2,cP,eU,QY,vm]at hp;rcases hp.1.2 with h|h
    ·have:=vd h;omega
    ·have:=vd h;omega
   ·exact mA Kv g1 g2 f1 f2 o1 o2
theorem iO{w id:Nat}{b b':TB B.S}: ∀{h:List (Nat×TB B.S)},pP h=true->bn h w=some b->bn h id=some b'->gi b=true->fV w id=true
 | [],_,hg,_,_=>by simp[df]at hg
 |(k,c)::r,hw,g1,g2,f1=>by
  simp only[pP,eU]at hw;obtain⟨DY,Kv⟩:=hw;have self:fV w w=true:=by unfold fV;simp_all
  simp only[cG]at g1 g2;split at g1
  ·rename_i e;cases g1;subst e;split at g2
   ·grind
   ·have hp:=dR DY g2;simp only[mz,f1,cP,eU]at hp
    grind
  ·split at g2
   ·rename_i e;cases g2;subst e;have hp:=dR DY g1;simp only[mz,f1,cP,eU]at hp;exact hp.2.1
   ·exact iO Kv g1 g2 f1
theorem yX{L:List (Nat×Nat)}{n:Nat}{v:Nat×Nat}: ∀{h:List (Nat×TB B.S)},pP h=true->v∈jI L n h->v.2=pi L v.1/\pi L v.1<n/\ ∃b,bn h v.1=some b/\gi b=true
 | [],_,hm=>by simp[jI]at hm
 |(k,b)::r,hw,hm=>by
  simp only[pP,eU]at hw;obtain⟨DY,Kv⟩:=hw;have tail:v∈jI L n r->v.2=pi L v.1/\pi L v.1<n/\ ∃b',bn ((k,b)::r) v.1=some b'/\gi b'=true:=λhm=>by
   obtain⟨h1,h2,b',h3,h4⟩:=yX Kv hm;refine⟨h1,h2,b',?_,h4⟩;have hp:=dR DY h3;simp only[mz,h4,cP,eU,sr]at hp;simp_all[cG,AH]
  simp only[jI]at hm;cases hc:gi b&&Nat.blt (pi L k) n with
  |false=>grind
  |true=>
   rw[hc]at hm;simp only[cP,pU]at hm;rcases hm with rfl|hm
   all_goals simp_all[cG]
theorem CN{L:List (Nat×Nat)}{n w:Nat}{b:TB B.S}(hb:gi b=true)(hp:pi L w<n): ∀{h:List (Nat×TB B.S)},bn h w=some b->(w,pi L w)∈jI L n h
 | [],hg=>by simp[df]at hg
 |(k,c)::r,hg=>by
  simp only[cG]at hg;simp only[jI];split at hg
  ·grind [KJ]
  ·cases gi c&&Nat.blt (pi L k) n
   ·exact CN hb hp hg
   ·simp only[cP,pU];exact .inr (CN hb hp hg)
theorem px{id:Nat}{v:Nat×Nat}: ∀{W:List (Nat×Nat)},uo W id=some v->v∈W/\fV v.1 id=false
 | [],h=>by cases h
 |u::r,h=>by
  simp only[uo]at h;cases ho:fV u.1 id with
  |true=>rw[ho]at h;exact⟨VK _ (px h).1,(px h).2⟩
  |false=>rw[ho]at h;cases h;exact⟨by simp,ho⟩
theorem yY{id:Nat}: ∀{W:List (Nat×Nat)},(∀v∈W,fV v.1 id=true)->uo W id=none
 | [],_=>rfl
 |u::r,h=>by
  simp only[uo,h u (by simp),cP];exact yY λv hv=>h v (by simp[hv])
theorem Bt{id:Nat}: ∀{W:List (Nat×Nat)},uo W id=none-> ∀v∈W,fV v.1 id=true
 | [],_,v,hv=>by simp at hv
 |u::r,h,v,hv=>by
  simp only[uo]at h;cases hu:fV u.1 id with
  |false=>rw[hu]at h;cases h
  |true=>
   rw[hu]at h;simp only[pU]at hv;rcases hv with rfl|hv
   ·exact hu
   ·exact Bt h v hv
theorem mB{L:List (Nat×Nat)}{n id:Nat}{b:TB B.S}{h:List (Nat×TB B.S)}(hw:pP h=true)(hg:bn h id=some b):pw L (jI L n h) id=pi L id:=by
 unfold pw;rw[yY λv hv=>by
  obtain⟨_,_,b',h1,h2⟩:=yX hw hv
  grind [iO]]
theorem Hl{L:List (Nat×Nat)}{n w id:Nat}{b:TB B.S}{h:List (Nat×TB B.S)}(hw:pP h=true)(hg:bn h w=some b)(hb:gi b=true)(hp:pi L w<n)(ho:fV w id=false):pw L (jI L n h) id=pi L w+(id-w):=by
 have hm:=CN hb hp hg;unfold pw;cases hf:uo (jI L n h) id with
 |none=>
  have:=Bt hf _ hm
  grind
 |some v=>
  obtain⟨h1,h2⟩:=px hf;obtain⟨e1,_,b',g1,f1⟩:=yX hw h1
  grind [mA]
def yZ(B:iU)(h:List (Nat×TB B.S))(ok:Nat->Bool)(π:Nat->Nat):Prop:= ∀w b,bn h w=some b-> ∀id x,bn (eP B w b) id=some x->ok id=true/\π id=π w+(id-w)
theorem lE{l:List (ZB B.S)}{i id:Nat}:bn (jT B i l) id=if i<=id then(l[id-i]?).map λz=>Nc (Ga B.E z)else none:=by
 induction l generalizing i with
 |nil=>simp[jT,df]
 |cons z r ih=>
  simp only[jT,cG]
  grind
theorem mV{c w i:Nat}{y:B.S c}{r:List (B.S c)}(h:i<cO):gW B c w i (y::r)=jT B (w+1+B.K c*i) (B.Z c (w+1+B.K c*i) y)++gW B c w (i+1) r:=by
 simp only[gW,KJ h,cP]
theorem lF{c w i:Nat}{y:B.S c}{r:List (B.S c)}(h:i<cO):iS B c w i (y::r)=(B.Y c (w+1+B.K c*i) y).er B.E::iS B c w (i+1) r:=by
 simp only[iS,KJ h,cP]
theorem QZ{i n:Nat}(h: ¬i<n):Nat.blt i n=false:=by
 cases hq:Nat.blt i n with
 |false=>rfl
 |true=>simp_all[aaJ]
theorem rJ{c r:Nat}{y:B.S c}{j:Nat}(hj:j<B.K c): ∃x,bn (jT B r (B.Z c r y)) (r+j)=some x:=by
 rw[lE,ez (by omega),show r+j-r=j from by omega,dF (by rw[(B.hF c).hz];exact hj)];exact⟨_,rfl⟩
theorem rK{c w w':Nat}{ok:Nat->Bool}{π:Nat->Nat}: ∀{l:List (B.S c)}{i:Nat},(∀id x,bn (gW B c w i l) id=some x->ok id=true/\π id=w'+(id-w))->qw ok π (iS B c w i l) (iS B c w' i l)
 | [],i,_=>.z
 |y::r,i,h=>by
  by_cases hi:i<cO
  ·rw[lF hi,lF hi];rw[mV hi]at h;refine .k ((B.hF c).hr ok π _ _ y λj hj=>?_).1 (rK λid x hx=>?_)
   ·obtain⟨x,hx⟩:=rJ (r:=w+1+B.K c*i) (y:=y) hj;obtain⟨h1,h2⟩:=h _ x (by rw[cX,hx]);exact⟨h1,by rw[h2];omega⟩
   ·cases hq:bn (jT B (w+1+B.K c*i) (B.Z c (w+1+B.K c*i) y)) id with
    |none=>exact h id x (by rw[cX,hq];exact hx)
    |some x'=>exact h id x' (by rw[cX,hq])
  ·have e: ∀v,iS B c v i (y::r)=[]:=λv=>by simp only[iS,QZ hi,dv]
   rw[e,e];exact .z
theorem uq{c w w':Nat}{ok:Nat->Bool}{π:Nat->Nat}: ∀{l:List (B.S c)}{i:Nat},(∀id x,bn (gW B c w i l) id=some x->ok id=true/\π id=w'+(id-w))->
  ∀id x,bn (gW B c w i l) id=some x-> ∃x',bn (gW B c w' i l) (w'+(id-w))=some x'/\AD ok π x x'
 | [],i,_,id,x,hx=>by simp[gW,df]at hx
 |y::r,i,h,id,x,hx=>by
  by_cases hi:i<cO
  ·have ga:=(fB (pu hx)).1;rw[mV hi]at h hx |-
   have hz:=(B.hF c).hz;have J8:=(B.hF c).hr ok π (w+1+B.K c*i) (w'+1+B.K c*i) y λj hj=>by
    obtain⟨x,hx⟩:=rJ (r:=w+1+B.K c*i) (y:=y) hj;obtain⟨h1,h2⟩:=h _ x (by rw[cX,hx]);exact⟨h1,by rw[h2];omega⟩
   rw[cX]at hx |-
   cases hq:bn (jT B (w+1+B.K c*i) (B.Z c (w+1+B.K c*i) y)) id with
   |some x0=>
    rw[hq]at hx;cases hx;rw[lE]at hq;split at hq
    ·rename_i eR;obtain⟨z,LR,KQ⟩:=L2.1 hq;have hl:id-(w+1+B.K c*i)<B.K c:=by have h:=(lf.1 LR).1;rw[hz]at h;exact h
     have hz3:(B.Z c (w'+1+B.K c*i) y)[id-(w+1+B.K c*i)]? =some ((B.Z c (w'+1+B.K c*i) y)[id-(w+1+B.K c*i)]'(by rw[hz];exact hl)):=dF _;refine⟨_,?_,by rw[<-KQ];exact J8.2 _ _ _ LR hz3⟩;rw[lE,ez (by omega),show w'+(id-w)-(w'+1+B.K c*i)=id-(w+1+B.K c*i)from by omega,hz3];rfl
    ·cases hq
   |none=>
    rw[hq]at hx;have e:bn (jT B (w'+1+B.K c*i) (B.Z c (w'+1+B.K c*i) y)) (w'+(id-w))=none:=by
     rw[lE]at hq |-
     split
     ·rename_i eR;rw[ez (by omega)]at hq;have hl: ¬id-(w+1+B.K c*i)<B.K c:=λhl=>by
       rw[dF (by rw[hz];exact hl)]at hq;cases hq
      rw[List.getElem?_eq_none (by rw[hz];omega)];rfl
     ·rfl
    rw[e];refine uq (λid2 x2 PK=>?_) id x hx;cases Q0:bn (jT B (w+1+B.K c*i) (B.Z c (w+1+B.K c*i) y)) id2 with
    |none=>exact h id2 x2 (by rw[cX,Q0];exact PK)
    |some x'=>exact h id2 x' (by rw[cX,Q0])
  ·simp only[gW,QZ hi,dv]at hx;simp[df]at hx
theorem ur{c w w' n:Nat}{cl:Bool}{pre post:List (B.S c)}{ok:Nat->Bool}{π:Nat->Nat}(h: ∀id x,bn (eP B w (.fr c cl pre n post)) id=some x->ok id=true/\π id=w'+(id-w))(id:Nat)(x:gM)(hx:bn (eP B w (.fr c cl pre n post)) id=some x):
  ∃x',bn (eP B w' (.fr c cl pre n post)) (w'+(id-w))=some x'/\AD ok π x x':=by
 simp only[eP]at h hx |-
 cases cl with
 |true=>
  simp_all[uq]
 |false=>
  simp only[dv]at h hx |-
  rw[cX]at hx |-
  have mM: ∀id x,bn (gW B c w 0 pre) id=some x->ok id=true/\π id=w'+(id-w):=λid x hx=>h id x (by rw[cX,hx]);have jB: ∀id x,bn (gW B c w (pre.length+n) post) id=some x->ok id=true/\π id=w'+(id-w):=λid x hx=>by
   grind [cX]
  cases hq:bn (gW B c w 0 pre) id with
  |some x0=>
   rw[hq]at hx;cases hx;obtain⟨x',h1,h2⟩:=uq mM id x hq
   grind
  |none=>
   rw[hq]at hx;obtain⟨x',h1,h2⟩:=uq jB id x hx;have:bn (gW B c w' 0 pre) (w'+(id-w))=none:=by
    cases hc:bn (gW B c w' 0 pre) (w'+(id-w))with
    |none=>rfl
    |some z=>
     exfalso;have ga:=(fB (pu hx)).1;obtain⟨z',hz,_⟩:=uq (w:=w') (w':=w) (ok:=λ_=>true) (π:=λi=>w+(i-w')) (λ_ _ _=>⟨rfl,rfl⟩) _ z hc
     grind
   grind
theorem map_inj{c:Nat}(hk:0<B.K c): ∀{x y:List (B.S c)},x.map (B.E c)=y.map (B.E c)->x=y
 | [],[],_=>rfl
 | [],_::_,h=>by cases h
 |_::_,[],h=>by cases h
 |a::x,b::y,h=>by
  simp only[Aj,List.cons.injEq]at h;rw[(B.hF c).hi hk _ _ h.1,map_inj hk h.2]
theorem l6{b:TB B.S}(h:gi b=true): ∃c cl pre n post,b=.fr c cl pre n post:=by
 cases b<;>first|exact⟨_,_,_,_,_,rfl⟩|cases h
theorem Hm{c w:Nat}{l:List (B.S c)}{i id:Nat}:bn (gW B c w i l) id≠some .gq:=λh=>by
 obtain⟨j,y,_,_,_,h4⟩:=uf h;obtain⟨_,_,z,_,h5⟩:=ue h4;cases h5
theorem oI{w id:Nat}{b:TB B.S}(h:bn (eP B w b) id=some .gq):False:=by
 unfold eP at h
 grind [cX,df,Hm]
end
end Go.Am
