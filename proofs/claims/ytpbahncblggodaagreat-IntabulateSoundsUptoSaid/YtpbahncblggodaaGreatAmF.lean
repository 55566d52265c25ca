/- The logic AM, F: the names of families of blocks. -/
import Derived.Test.YtpbahncblggodaaGreatAmX
set_option linter.all false
namespace Go.Am
open Go.RowKit
def tm:List (Nat×Nat)->Nat->Option (Nat×Nat)
 | [],_=>none
 |v::r,id=>bif fC v.1 id then tm r id else some v
def pw(L W:List (Nat×Nat))(id:Nat):Nat:=match tm W id with
 |some v=>v.2+(id-v.1)
 |none=>pi L id
theorem eR{w id:Nat}(h:fC w id=false):w<id/\id<w+uP:=by
 unfold fC at h
 rw[EH]at h
 obtain⟨h1,h2⟩:=h
 constructor
 ·apply Nat.lt_of_not_le;intro h;rw[Ud h]at h1;cases h1
 ·apply Nat.lt_of_not_le;intro h;rw[Ud h]at h2;cases h2
theorem kZ{w id:Nat}(h1:w<id)(h2:id<w+uP):fC w id=false:=by
 cases hq:fC w id with
 |false=>rfl
 |true=>
  unfold fC at hq
  rw[sS]at hq
  rcases hq with h|h
  ·have:=sT h;omega
  ·have:=sT h;omega
def Ot(a b:Nat):Bool:=Nat.ble (a+uP) b||Nat.ble (b+uP) a
def lD{S:Nat->Type}(k:Nat)(b:TB S)(k':Nat)(b':TB S):Bool:=
 (bif fI b then fC k k'&&!(Nat.beq k k')&&(bif fI b' then Ot k k' else true)else true)&&(bif fI b' then fC k' k&&!(Nat.beq k k')else true)
def pc{S:Nat->Type}:List (Nat×TB S)->Bool
 | []=>true
 |(k,b)::r=>(r.all λq=>lD k b q.1 q.2)&&pc r
def Al{S:Nat->Type}(n:Nat)(h:List (Nat×TB S)):Bool:=h.all λp=>!(fI p.2)||Nat.ble (p.1+uP) n
def jm{S:Nat->Type}(L:List (Nat×Nat))(n:Nat):List (Nat×TB S)->List (Nat×Nat)
 | []=>[]
 |(k,b)::r=>bif fI b&&Nat.blt (pi L k) n then(k,pi L k)::jm L n r else jm L n r
section
variable {B:iP}
theorem zG{a b:Nat}(h:Nat.beq a b=false):a≠b:=λe=>by subst e;rw[show Nat.beq a a=true from Nu a]at h;cases h
theorem dM{β:Type}{q:Nat×β->Bool}{l:List (Nat×β)}(h:l.all q=true){i:Nat}{x:β}(hg:bH l i=some x):q (i,x)=true:=py.1 h _ (nE hg)
theorem Hc{w id:Nat}{b:TB B.S}{x:gp}: ∀{h:List (Nat×TB B.S)},pc h=true->bH h w=some b->bH (eH B w b) id=some x->bH (kh B h) id=none/\bH (lS B h) id=some x
 | [],_,hg,_=>by simp[cR]at hg
 |(k,c)::r,hw,hg,hx=>by
  have hb:=(eT hx).1
  have ho:=(eT hx).2
  obtain⟨o1,o2⟩:=eR ho
  simp only[pc,eW]at hw
  obtain⟨C8,IY⟩:=hw
  simp only[cG]at hg
  simp only[kh,lS,cG]
  split at hg
  ·rename_i e
   cases hg;subst e
   have key: ∀i y,bH r i=some y->fC k i=true:=λi y hi=>by
    have:=dM C8 hi
    simp only[lD,hb,cond_true,eW]at this
    exact this.1.1.1
   rw[if_neg (by omega),fP]
   constructor
   ·cases hr:bH r id with
    |none=>rfl
    |some y=>rw[key id y hr]at ho;cases ho
   ·rw[cU,hx]
  ·rename_i eJ
   obtain⟨i1,i2⟩:=Hc IY hg hx
   have hp:=dM C8 hg
   simp only[lD,hb,cond_true,eW]at hp
   have hk:k≠id:=λe=>by subst e;rw[hp.2.1]at ho;cases ho
   refine⟨by rw[if_neg hk];exact i1,?_⟩
   rw[cU]
   split
   ·rename_i y hy
    obtain⟨c1,c2⟩:=eT hy
    obtain⟨c3,c4⟩:=eR c2
    have:=hp.1
    simp only[c1,cond_true,eW,Ot,sS]at this
    rcases this.2 with h|h
    ·have:=sT h;omega
    ·have:=sT h;omega
   ·exact i2
theorem xH{id:Nat}{x:gp}: ∀{h:List (Nat×TB B.S)},pc h=true->bH (lS B h) id=some x-> ∃w b,bH h w=some b/\bH (eH B w b) id=some x
 | [],_,hx=>by simp[lS,cR]at hx
 |(k,c)::r,hw,hx=>by
  simp only[pc,eW]at hw
  obtain⟨C8,IY⟩:=hw
  simp only[lS]at hx
  rw[cU]at hx
  split at hx
  ·rename_i y hy
   cases hx
   exact⟨k,c,by simp[cG],hy⟩
  ·obtain⟨w,b,h1,h2⟩:=xH IY hx
   refine⟨w,b,?_,h2⟩
   have hp:=dM C8 h1
   simp only[lD,(eT h2).1,cond_true,eW,pC]at hp
   rw[cG,if_neg (zG hp.2.2)];exact h1
theorem gH{s:dI B.S}{id:Nat}{x:gp}(hw:pc s.heap=true)(hx:bH (df B s).heap id=some x):(∃b,bH s.heap id=some b/\x=fB B b)\/(bH s.heap id=none/\ ∃w b,bH s.heap w=some b/\bH (eH B w b) id=some x):=by
 simp only[df]at hx
 rw[cU,fP]at hx
 cases hg:bH s.heap id with
 |some b=>rw[hg]at hx;cases hx;exact .inl ⟨b,rfl,rfl⟩
 |none=>rw[hg]at hx;exact .inr ⟨rfl,xH hw hx⟩
theorem iZ{s:dI B.S}{w id:Nat}{b:TB B.S}{x:gp}(hw:pc s.heap=true)(hg:bH s.heap w=some b)(hx:bH (eH B w b) id=some x):bH (df B s).heap id=some x:=by
 obtain⟨h1,h2⟩:=Hc hw hg hx
 simp only[df]
 rw[cU,h1];exact h2
theorem lE{w w' id:Nat}{b b':TB B.S}: ∀{h:List (Nat×TB B.S)},pc h=true->bH h w=some b->bH h w'=some b'->fI b=true->fI b'=true->fC w id=false->fC w' id=false->w=w'
 | [],_,hg,_,_,_,_,_=>by simp[cR]at hg
 |(k,c)::r,hw,g1,g2,f1,f2,o1,o2=>by
  simp only[pc,eW]at hw
  obtain⟨C8,IY⟩:=hw
  obtain⟨a1,a2⟩:=eR o1
  obtain⟨a3,a4⟩:=eR o2
  simp only[cG]at g1 g2
  split at g1
  ·rename_i e
   cases g1;subst e
   split at g2
   ·rename_i e;exact e
   ·have hp:=dM C8 g2
    simp only[lD,f1,f2,cond_true,eW,Ot,sS]at hp
    rcases hp.1.2 with h|h
    ·have:=sT h;omega
    ·have:=sT h;omega
  ·split at g2
   ·rename_i e
    cases g2;subst e
    have hp:=dM C8 g1
    simp only[lD,f1,f2,cond_true,eW,Ot,sS]at hp
    rcases hp.1.2 with h|h
    ·have:=sT h;omega
    ·have:=sT h;omega
   ·exact lE IY g1 g2 f1 f2 o1 o2
theorem iu{w id:Nat}{b b':TB B.S}: ∀{h:List (Nat×TB B.S)},pc h=true->bH h w=some b->bH h id=some b'->fI b=true->fC w id=true
 | [],_,hg,_,_=>by simp[cR]at hg
 |(k,c)::r,hw,g1,g2,f1=>by
  simp only[pc,eW]at hw
  obtain⟨C8,IY⟩:=hw
  have self:fC w w=true:=by unfold fC;rw[Ud (eu w)];rfl
  simp only[cG]at g1 g2
  split at g1
  ·rename_i e
   cases g1;subst e
   split at g2
   ·rename_i e;subst e;exact self
   ·have hp:=dM C8 g2
    simp only[lD,f1,cond_true,eW]at hp
    exact hp.1.1.1
  ·split at g2
   ·rename_i e
    cases g2;subst e
    have hp:=dM C8 g1
    simp only[lD,f1,cond_true,eW]at hp
    exact hp.2.1
   ·exact iu IY g1 g2 f1
theorem xI{L:List (Nat×Nat)}{n:Nat}{v:Nat×Nat}: ∀{h:List (Nat×TB B.S)},pc h=true->v∈jm L n h->v.2=pi L v.1/\pi L v.1<n/\ ∃b,bH h v.1=some b/\fI b=true
 | [],_,hm=>by simp[jm]at hm
 |(k,b)::r,hw,hm=>by
  simp only[pc,eW]at hw
  obtain⟨C8,IY⟩:=hw
  have tail:v∈jm L n r->v.2=pi L v.1/\pi L v.1<n/\ ∃b',bH ((k,b)::r) v.1=some b'/\fI b'=true:=λhm=>by
   obtain⟨h1,h2,b',h3,h4⟩:=xI IY hm
   refine⟨h1,h2,b',?_,h4⟩
   have hp:=dM C8 h3
   simp only[lD,h4,cond_true,eW,pC]at hp
   rw[cG,if_neg (zG hp.2.2)];exact h3
  simp only[jm]at hm
  cases hc:fI b&&Nat.blt (pi L k) n with
  |false=>rw[hc]at hm;exact tail hm
  |true=>
   rw[hc]at hm
   simp only[cond_true,mB]at hm
   rcases hm with rfl|hm
   ·simp only[eW,qZ]at hc
    exact⟨rfl,hc.2,b,by simp[cG],hc.1⟩
   ·exact tail hm
theorem BE{L:List (Nat×Nat)}{n w:Nat}{b:TB B.S}(hb:fI b=true)(hp:pi L w<n): ∀{h:List (Nat×TB B.S)},bH h w=some b->(w,pi L w)∈jm L n h
 | [],hg=>by simp[cR]at hg
 |(k,c)::r,hg=>by
  simp only[cG]at hg
  simp only[jm]
  split at hg
  ·rename_i e
   cases hg;subst e
   rw[hb,show Nat.blt (pi L k) n=true from I6 hp]
   simp
  ·cases fI c&&Nat.blt (pi L k) n
   ·exact BE hb hp hg
   ·simp only[cond_true,mB];exact .inr (BE hb hp hg)
theorem oD{id:Nat}{v:Nat×Nat}: ∀{W:List (Nat×Nat)},tm W id=some v->v∈W/\fC v.1 id=false
 | [],h=>by cases h
 |u::r,h=>by
  simp only[tm]at h
  cases ho:fC u.1 id with
  |true=>rw[ho]at h;exact⟨Iv _ (oD h).1,(oD h).2⟩
  |false=>rw[ho]at h;cases h;exact⟨by simp,ho⟩
theorem xJ{id:Nat}: ∀{W:List (Nat×Nat)},(∀v∈W,fC v.1 id=true)->tm W id=none
 | [],_=>rfl
 |u::r,h=>by
  simp only[tm,h u (by simp),cond_true]
  exact xJ λv hv=>h v (by simp[hv])
theorem An{id:Nat}: ∀{W:List (Nat×Nat)},tm W id=none-> ∀v∈W,fC v.1 id=true
 | [],_,v,hv=>by simp at hv
 |u::r,h,v,hv=>by
  simp only[tm]at h
  cases hu:fC u.1 id with
  |false=>rw[hu]at h;cases h
  |true=>
   rw[hu]at h
   simp only[mB]at hv
   rcases hv with rfl|hv
   ·exact hu
   ·exact An h v hv
theorem kJ{L:List (Nat×Nat)}{n id:Nat}{b:TB B.S}{h:List (Nat×TB B.S)}(hw:pc h=true)(hg:bH h id=some b):pw L (jm L n h) id=pi L id:=by
 unfold pw
 rw[xJ λv hv=>by
  obtain⟨_,_,b',h1,h2⟩:=xI hw hv
  exact iu hw h1 hg h2]
theorem FB{L:List (Nat×Nat)}{n w id:Nat}{b:TB B.S}{h:List (Nat×TB B.S)}(hw:pc h=true)(hg:bH h w=some b)(hb:fI b=true)(hp:pi L w<n)(ho:fC w id=false):pw L (jm L n h) id=pi L w+(id-w):=by
 have hm:=BE hb hp hg
 unfold pw
 cases hf:tm (jm L n h) id with
 |none=>
  have:=An hf _ hm
  simp only at this
  rw[ho]at this;cases this
 |some v=>
  obtain⟨h1,h2⟩:=oD hf
  obtain⟨e1,_,b',g1,f1⟩:=xI hw h1
  have:=lE hw g1 hg f1 hb h2 ho
  simp only[e1,this]
def xK(B:iP)(h:List (Nat×TB B.S))(ok:Nat->Bool)(π:Nat->Nat):Prop:= ∀w b,bH h w=some b-> ∀id x,bH (eH B w b) id=some x->ok id=true/\π id=π w+(id-w)
theorem kK{l:List (ZB B.S)}{i id:Nat}:bH (jv B i l) id=if i<=id then(l[id-i]?).map λz=>Lb (ET B.E z)else none:=by
 induction l generalizing i with
 |nil=>simp[jv,cR]
 |cons z r ih=>
  simp only[jv,cG]
  split
  ·rename_i e;subst e;simp
  ·rename_i eJ
   rw[ih]
   by_cases h:i<=id
   ·rw[if_pos h,if_pos (by omega),show id-i=(id-(i+1))+1 from by omega];simp
   ·rw[if_neg h,if_neg (by omega)]
theorem lZ{c w i:Nat}{y:B.S c}{r:List (B.S c)}(h:i<cO):gk B c w i (y::r)=jv B (w+1+B.K c*i) (B.Z c (w+1+B.K c*i) y)++gk B c w (i+1) r:=by
 simp only[gk,I6 h,cond_true]
theorem kM{c w i:Nat}{y:B.S c}{r:List (B.S c)}(h:i<cO):iw B c w i (y::r)=(B.Y c (w+1+B.K c*i) y).er B.E::iw B c w (i+1) r:=by
 simp only[iw,I6 h,cond_true]
theorem Ou{i n:Nat}(h: ¬i<n):Nat.blt i n=false:=by
 cases hq:Nat.blt i n with
 |false=>rfl
 |true=>exact absurd (Za hq) h
theorem qz{c r:Nat}{y:B.S c}{j:Nat}(hj:j<B.K c): ∃x,bH (jv B r (B.Z c r y)) (r+j)=some x:=by
 rw[kK,if_pos (by omega),show r+j-r=j from by omega,dC (by rw[(B.hF c).hz];exact hj)]
 exact⟨_,rfl⟩
theorem qA{c w w':Nat}{ok:Nat->Bool}{π:Nat->Nat}: ∀{l:List (B.S c)}{i:Nat},(∀id x,bH (gk B c w i l) id=some x->ok id=true/\π id=w'+(id-w))->rH ok π (iw B c w i l) (iw B c w' i l)
 | [],i,_=>.z
 |y::r,i,h=>by
  by_cases hi:i<cO
  ·rw[kM hi,kM hi]
   rw[lZ hi]at h
   refine .k ((B.hF c).hr ok π _ _ y λj hj=>?_).1 (qA λid x hx=>?_)
   ·obtain⟨x,hx⟩:=qz (r:=w+1+B.K c*i) (y:=y) hj
    obtain⟨h1,h2⟩:=h _ x (by rw[cU,hx])
    exact⟨h1,by rw[h2];omega⟩
   ·cases hq:bH (jv B (w+1+B.K c*i) (B.Z c (w+1+B.K c*i) y)) id with
    |none=>exact h id x (by rw[cU,hq];exact hx)
    |some x'=>exact h id x' (by rw[cU,hq])
  ·have e: ∀v,iw B c v i (y::r)=[]:=λv=>by simp only[iw,Ou hi,cond_false]
   rw[e,e];exact .z
theorem tn{c w w':Nat}{ok:Nat->Bool}{π:Nat->Nat}: ∀{l:List (B.S c)}{i:Nat},(∀id x,bH (gk B c w i l) id=some x->ok id=true/\π id=w'+(id-w))->
  ∀id x,bH (gk B c w i l) id=some x-> ∃x',bH (gk B c w' i l) (w'+(id-w))=some x'/\Ai ok π x x'
 | [],i,_,id,x,hx=>by simp[gk,cR]at hx
 |y::r,i,h,id,x,hx=>by
  by_cases hi:i<cO
  ·have eP:=(eR (oF hx)).1
   rw[lZ hi]at h hx |-
   have hz:=(B.hF c).hz
   have Iz:=(B.hF c).hr ok π (w+1+B.K c*i) (w'+1+B.K c*i) y λj hj=>by
    obtain⟨x,hx⟩:=qz (r:=w+1+B.K c*i) (y:=y) hj
    obtain⟨h1,h2⟩:=h _ x (by rw[cU,hx])
    exact⟨h1,by rw[h2];omega⟩
   rw[cU]at hx |-
   cases hq:bH (jv B (w+1+B.K c*i) (B.Z c (w+1+B.K c*i) y)) id with
   |some x0=>
    rw[hq]at hx;cases hx
    rw[kK]at hq
    split at hq
    ·rename_i ep
     obtain⟨z,Hd,FC⟩:=GH.1 hq
     have hl:id-(w+1+B.K c*i)<B.K c:=by have h:=(fM.1 Hd).1;rw[hz]at h;exact h
     have hz3:(B.Z c (w'+1+B.K c*i) y)[id-(w+1+B.K c*i)]? =some ((B.Z c (w'+1+B.K c*i) y)[id-(w+1+B.K c*i)]'(by rw[hz];exact hl)):=dC _
     refine⟨_,?_,by rw[<-FC];exact Iz.2 _ _ _ Hd hz3⟩
     rw[kK,if_pos (by omega),show w'+(id-w)-(w'+1+B.K c*i)=id-(w+1+B.K c*i)from by omega,hz3]
     rfl
    ·cases hq
   |none=>
    rw[hq]at hx
    have e:bH (jv B (w'+1+B.K c*i) (B.Z c (w'+1+B.K c*i) y)) (w'+(id-w))=none:=by
     rw[kK]at hq |-
     split
     ·rename_i ep
      rw[if_pos (by omega)]at hq
      have hl: ¬id-(w+1+B.K c*i)<B.K c:=λhl=>by
       rw[dC (by rw[hz];exact hl)]at hq;cases hq
      rw[List.getElem?_eq_none (by rw[hz];omega)];rfl
     ·rfl
    rw[e]
    refine tn (λZb x2 P8=>?_) id x hx
    cases I7:bH (jv B (w+1+B.K c*i) (B.Z c (w+1+B.K c*i) y)) Zb with
    |none=>exact h Zb x2 (by rw[cU,I7];exact P8)
    |some x'=>exact h Zb x' (by rw[cU,I7])
  ·simp only[gk,Ou hi,cond_false]at hx
   simp[cR]at hx
theorem tp{c w w' n:Nat}{cl:Bool}{pre post:List (B.S c)}{ok:Nat->Bool}{π:Nat->Nat}(h: ∀id x,bH (eH B w (.fr c cl pre n post)) id=some x->ok id=true/\π id=w'+(id-w))(id:Nat)(x:gp)(hx:bH (eH B w (.fr c cl pre n post)) id=some x):
  ∃x',bH (eH B w' (.fr c cl pre n post)) (w'+(id-w))=some x'/\Ai ok π x x':=by
 simp only[eH]at h hx |-
 cases cl with
 |true=>
  simp only[cond_true,qY]at h hx |-
  exact tn h id x hx
 |false=>
  simp only[cond_false]at h hx |-
  rw[cU]at hx |-
  have j7: ∀id x,bH (gk B c w 0 pre) id=some x->ok id=true/\π id=w'+(id-w):=λid x hx=>h id x (by rw[cU,hx])
  have iA: ∀id x,bH (gk B c w (pre.length+n) post) id=some x->ok id=true/\π id=w'+(id-w):=λid x hx=>by
   cases hq:bH (gk B c w 0 pre) id with
   |some y=>exact j7 id y hq
   |none=>exact h id x (by rw[cU,hq];exact hx)
  cases hq:bH (gk B c w 0 pre) id with
  |some x0=>
   rw[hq]at hx;cases hx
   obtain⟨x',h1,h2⟩:=tn j7 id x hq
   exact⟨x',by rw[h1],h2⟩
  |none=>
   rw[hq]at hx
   obtain⟨x',h1,h2⟩:=tn iA id x hx
   have:bH (gk B c w' 0 pre) (w'+(id-w))=none:=by
    cases hc:bH (gk B c w' 0 pre) (w'+(id-w))with
    |none=>rfl
    |some z=>
     exfalso
     have eP:=(eR (oF hx)).1
     obtain⟨z',hz,_⟩:=tn (w:=w') (w':=w) (ok:=λ_=>true) (π:=λi=>w+(i-w')) (λ_ _ _=>⟨rfl,rfl⟩) _ z hc
     rw[show w+(w'+(id-w)-w')=id from by omega,hq]at hz;cases hz
   rw[this]
   exact⟨x',h1,h2⟩
theorem map_inj{c:Nat}(hk:0<B.K c): ∀{x y:List (B.S c)},x.map (B.E c)=y.map (B.E c)->x=y
 | [],[],_=>rfl
 | [],_::_,h=>by cases h
 |_::_,[],h=>by cases h
 |a::x,b::y,h=>by
  simp only[wy,List.cons.injEq]at h
  rw[(B.hF c).hi hk _ _ h.1,map_inj hk h.2]
theorem lh{b:TB B.S}(h:fI b=true): ∃c cl pre n post,b=.fr c cl pre n post:=by
 cases b<;>first|exact⟨_,_,_,_,_,rfl⟩|cases h
theorem xL{c w:Nat}{l:List (B.S c)}{i id:Nat}:bH (gk B c w i l) id≠some .gb:=λh=>by
 obtain⟨j,y,_,_,_,h4⟩:=tq h
 obtain⟨_,_,z,_,h5⟩:=tt h4
 cases h5
theorem nI{w id:Nat}{b:TB B.S}(h:bH (eH B w b) id=some .gb):False:=by
 unfold eH at h
 split at h
 ·rename_i c cl pre n post
  rw[cU]at h
  split at h
  ·rename_i x hx
   cases h
   cases cl with
   |true=>simp[cR]at hx
   |false=>exact xL hx
  ·exact xL h
 ·simp[cR]at h
end
end Go.Am
