/- The logic AM, G: families of blocks: an element opened, shut, put in; a family that becomes immutable. -/
import Derived.Test.YtfdnjgoegamonaaGreatDoorAmR
set_option linter.all false
namespace Go.Am
open Go.RowKit
structure vO (π:Nat->Nat) (S2 s:St):Prop where
 heap: ∀id b,bJ S2.heap id=some b->(∃b',bJ s.heap (π id)=some b'/\(b=b'\/A0 (gR s.cr S2.heap) π b b'))\/(s.cr<=π id/\ ∃cN,0<cN/\b=.cells cN [])
 low: ∀id,id<s.cr->π id=id
 inj: ∀id fL b b',bJ S2.heap id=some b->bJ S2.heap fL=some b'->π id=π fL->id=fL
 lt: ∀id b,bJ S2.heap id=some b->id<S2.cr
 cb:s.cr<=S2.cr
 gK: ∀id,bJ s.heap id=some .gK->bJ S2.heap id=some .gK
section
variable {π:Nat->Nat} {S2 s s0:St} {G G0:cx} {w w0:World}
theorem vO.mk0(h1: ∀id b,bJ S2.heap id=some b-> ∃b',bJ s.heap (π id)=some b'/\(b=b'\/A0 (gR s.cr S2.heap) π b b'))(h2: ∀id,id<s.cr->π id=id)(h3: ∀id fL b b',bJ S2.heap id=some b->bJ S2.heap fL=some b'->π id=π fL->id=fL)
 (h4: ∀id b,bJ S2.heap id=some b->id<S2.cr) (h5:s.cr<=S2.cr) (h6: ∀id,bJ s.heap id=some .gK->bJ S2.heap id=some .gK):vO π S2 s:=⟨λid b h=>.inl (h1 id b h),h2,h3,h4,h5,h6⟩
theorem vO.le(h:vO π S2 s)(hs:eQ G s w):sJ G (gg s.cr π S2.heap G):=⟨λ_ _ _ h=>h,λid r ho=>by
 have:id<s.cr:=by
  by_cases hq:id<s.cr
  ·exact hq
  ·rw[hs.cE id (by omega)]at ho;cases ho
 simp only[gg,oS this,wz,h.low id this];exact ho⟩
theorem vO.jd(h:vO π S2 s)(hs:eQ G s w):eQ (gg s.cr π S2.heap G) S2 w:=by
 refine⟨hs.kS,λid b hg=>?_,λid fL b b' r r' h1 h2 o1 o2 eU=>?_,λid b r o hg ho=>?_,λid hid=>?_,h.lt⟩
 ·rw[xo hg];rcases h.heap id b hg with⟨b',oM,hc⟩|⟨hn,e⟩
  case inr=>exact .inr ⟨hs.cE _ hn,e⟩
  rcases hs.heap _ _ oM with⟨r,o,e1,e2,e3⟩|⟨e1,cN,h0,e2⟩
  ·refine .inl ⟨r,o,e1,e2,?_⟩;rcases hc with rfl|hc
   ·exact e3.mono (h.le hs)
   ·exact hc.holds BB e3
  ·refine .inr ⟨e1,cN,h0,?_⟩;rcases hc with rfl|hc
   ·exact e2
   ·subst e2;exact hc.nil
 ·rw[xo h1]at o1;rw[xo h2]at o2;rcases h.heap id b h1 with⟨c,hc,_⟩|⟨hn,_⟩
  case inr=>rw[hs.cE _ hn]at o1;cases o1
  rcases h.heap fL b' h2 with⟨c',Tf,_⟩|⟨hn,_⟩
  case inr=>rw[hs.cE _ hn]at o2;cases o2
  exact hs.apart _ _ c c' r r' hc Tf o1 o2 λe=>eU (h.inj id fL b b' h1 h2 e)
 ·rw[xo hg]at ho;rcases h.heap id b hg with⟨c,hc,_⟩|⟨hn,_⟩
  case inr=>rw[hs.cE _ hn]at ho;cases ho
  exact hs.clear _ c r o hc ho
 ·have hb:=h.cb;have:gR s.cr S2.heap id=false:=by
   cases hq:gR s.cr S2.heap id with
   |false=>rfl
   |true=>
    simp only[gR,tY,ru]at hq;rcases hq with hq|hq
    ·omega
    ·obtain⟨b,hb⟩:=iK.1 hq;have:=h.lt id b hb;omega
  simp[gg,this]
theorem vO.ext(h:vO π S2 s)(h0:eQ G0 s0 w0)(hx:Ext G0 s0 w0 G s w)(hs:eQ G s w)(hb:s0.cr<=s.cr):Ext G0 s0 w0 (gg s.cr π S2.heap G) S2 w:=by
 have lo: ∀id,id<s.cr->(gg s.cr π S2.heap G).own id=G.own id:=λid hl=>by simp only[gg,oS hl,wz,h.low id hl]
 refine⟨hx.le.trans (h.le hs),hx.os,hx.tape,hx.output,hx.size,hx.keep,hx.jJ,λid r ho=>?_,λid b hg=>?_,xz hb h.cb,λid hd=>h.gK id (hx.gK id hd),λid hl ho=>?_,hx.drawn⟩
 ·by_cases hl:id<s.cr
  ·rw[lo id hl]at ho;exact hx.jj id r ho
  ·have DT:gR s.cr S2.heap id=true:=by
    cases hq:gR s.cr S2.heap id with
    |true=>rfl
    |false=>simp[gg,hq]at ho
   have hh:has S2.heap id=true:=by
    simp only[gR,tY,ru]at DT;rcases DT with hq|hq
    ·exact absurd hq hl
    ·exact hq
   obtain⟨b,hg⟩:=iK.1 hh;rw[xo hg]at ho;rcases h.heap id b hg with⟨c,hc,_⟩|⟨hn,_⟩
   case inr=>rw[hs.cE _ hn]at ho;cases ho
   rcases hx.jj _ r ho with q|q
   ·rcases hx.ids _ c hc with⟨c0,q0⟩|q0
    ·exact .inr (.inr ⟨_,c0,r,q0,q,rfl⟩)
    ·rw[h0.cE _ q0]at q;cases q
   ·exact .inr q
 ·by_cases hl:id<s.cr
  ·rcases h.heap id b hg with⟨c,hc,_⟩|⟨hn,_⟩
   case inr=>rw[h.low id hl]at hn;omega
   rw[h.low id hl]at hc;exact hx.ids id c hc
  ·exact .inr (by omega)
 ·rw[lo id (by omega)];exact hx.stay id hl ho
theorem E4{N:Nat}{ρ:Option Nat}{bX:Env}(h:vO π S2 s):G8 N ρ s.cr bX S2 bX s:=λhb h0 hx hn=>
 ⟨_,⟨h.jd hn.jd,hn.bX.mono (h.le hn.jd),hn.size,hn.mM.ext (h.ext hn.jd (.refl _ _ _) hn.jd (eD _)),hn.known.le (h.le hn.jd)⟩,h.ext h0 hx hn.jd hb⟩
end
section
variable {B:jg}
def toTB{S:Nat->Type}:ZB S->TB S
 |.o n l=>.cW n l
 |.l n c x=>.lz n c x
theorem toTB_er(z:ZB B.S):fS B (toTB z)=MC (Gk B.E z):=by cases z<;>rfl
theorem toTB_fr(z:ZB B.S):gm (toTB z)=false:=by cases z<;>rfl
def qW{S:Nat->Type}:Nat->List (ZB S)->List (Nat×TB S)
 |_,[]=>[]
 |i,z::r=>(i,toTB z)::qW (i+1) r
theorem BS{l:List (ZB B.S)}{i id:Nat}:bJ (qW i l) id=if i<=id then(l[id-i]?).map toTB else none:=by
 induction l generalizing i with
 |nil=>simp[qW,di]
 |cons z r ih=>
  simp only[qW,cZ];split
  ·rename_i e;subst e;simp
  ·rename_i eU;rw[ih];by_cases h:i<=id
   ·rw[dP h,dP (by omega),show id-i=(id-(i+1))+1 from by omega];simp
   ·rw[dY h,dY (by omega)]
theorem uL{h:List (Nat×TB B.S)}{id:Nat}{b:TB B.S}: ∀{ks:List Nat},bJ (ly ks h) id=some b->jG id ks=true
 | [],hg=>by simp[ly,di]at hg
 |k::r,hg=>by
  unfold ly at hg;have hr:jG id r=true->jG id (k::r)=true:=λh=>by
   unfold jG at h |-
   simp only[List.any_cons,h,Bool.or_true]
  split at hg
  ·simp only[cZ]at hg;split at hg
   ·rename_i e;subst e;exact I8 (by simp)
   ·exact hr (uL hg)
  ·exact hr (uL hg)
theorem zF{c w:Nat}{b:List (B.S c)}: ∀{a:List (B.S c)}{i:Nat},iE B c w i (a++b)=iE B c w i a++iE B c w (i+a.length) b
 | [],i=>rfl
 |y::r,i=>by
  by_cases hi:i<cU
  ·rw[yh,kF hi,kF hi,zF (a:=r),yh,oC,show i+1+r.length=i+(r.length+1)from by omega]
  ·have e: ∀(l:List (B.S c))j,i<=j->iE B c w j l=[]:=λl j hj=>by
    cases l with
    |nil=>rfl
    |cons z q=>simp only[iE,Na (show¬j<cU by omega),dD]
   rw[e _ _ (eD _),e _ _ (eD _),e _ _ (by omega)];rfl
theorem zG{c w:Nat}{b:List (B.S c)}: ∀{a:List (B.S c)}{i:Nat},gy B c w i (a++b)=gy B c w i a++gy B c w (i+a.length) b
 | [],i=>rfl
 |y::r,i=>by
  by_cases hi:i<cU
  ·rw[yh,lF hi,lF hi,zG (a:=r),Ig,oC,show i+1+r.length=i+(r.length+1)from by omega]
  ·have e: ∀(l:List (B.S c))j,i<=j->gy B c w j l=[]:=λl j hj=>by
    cases l with
    |nil=>rfl
    |cons z q=>simp only[gy,Na (show¬j<cU by omega),dD]
   rw[e _ _ (eD _),e _ _ (eD _),e _ _ (by omega)];rfl
theorem pT{c w i id:Nat}{l:List (B.S c)}{x:gU}(h:bJ (gy B c w i l) id=some x):w+1+B.K c*i<=id/\id<w+1+B.K c*(i+l.length):=by
 obtain⟨j,y,h1,h2,h3,h4⟩:=uv h;obtain⟨g1,g2,_⟩:=uu h4;rw[(B.hF c).hz]at g2;have hj:j-i<l.length:=(fT.1 h3).1;have e1:B.K c*i<=B.K c*j:=ZG _ h1;have e2:B.K c*(j+1)<=B.K c*(i+l.length):=ZG _ (by omega);rw[V0,Nat.mul_one]at e2;constructor <;>omega
theorem jr{c r id:Nat}{y:B.S c}{x:gU}(h:bJ (j0 B r (B.Z c r y)) id=some x):r<=id/\id<r+B.K c:=by
 obtain⟨g1,g2,_⟩:=uu h;rw[(B.hF c).hz]at g2;exact⟨g1,g2⟩
section
variable {m w n c:Nat} {cl:Bool} {pre post:List (B.S c)} {y:B.S c} {ids:List Nat} {s:dZ B.S}
def Ht(B:jg)(m w n c:Nat)(cl:Bool)(pre:List (B.S c))(y:B.S c)(post:List (B.S c))(ids:List Nat)(s:dZ B.S):dZ B.S:=
 ⟨qW s.cr (B.Z c s.cr y)++(m,.fm n c w cl pre [B.Y c s.cr y] post)::(w,.fr c cl pre 1 post)::ly ids s.heap,s.cr+B.K c⟩
def Y0(B:jg)(m w:Nat)(ids:List Nat)(S2 s:dZ B.S):Bool:=
 pz s.heap&&pz S2.heap&&zg s.cr s.heap&&(s.heap.all λp=>Nat.blt p.1 s.cr)&&!(jG m ids)&&!(jG w ids)&&yQ (kP B s.heap) (kP B S2.heap)
theorem aaF{A M Z:List (Nat×gU)}{id:Nat}{x:gU}(hA: ∀z z',bJ A id=some z->bJ M id=some z'->False)(hZ: ∀z z',bJ Z id=some z->bJ M id=some z'->False):
  bJ (A++(M++Z)) id=some x↔(bJ (A++Z) id=some x\/bJ M id=some x):=by
 rw[dp,dp,dp];cases hq:bJ A id with
 |some z=>
  cases hn:bJ M id with
  |some z'=>exact(hA _ _ hq hn).elim
  |none=>simp
 |none=>
  cases hn:bJ M id with
  |none=>simp
  |some z'=>
   cases hr:bJ Z id with
   |some z=>exact(hZ _ _ hr hn).elim
   |none=>simp
theorem uM(hc:pre.length<cU){id:Nat}{x:gU}:bJ (eX B w (.fr c cl pre 0 (y::post))) id=some x↔
  (bJ (eX B w (.fr c cl pre 1 post)) id=some x\/bJ (j0 B (w+1+B.K c*pre.length) (B.Z c (w+1+B.K c*pre.length) y)) id=some x):=by
 simp only[eX,DO];rw[lF hc];refine aaF (λz z' h h'=>?_) λz z' h h'=>?_
 ·have h2:=(jr h').1;cases cl with
  |true=>simp[di]at h
  |false=>have h1:=(pT h).2;rw[Cd]at h1;omega
 ·have h2:=(jr h').2;have h1:=(pT h).1;rw[V0]at h1;omega
theorem BT{bm bw:TB B.S}(hm:bJ s.heap m=some bm)(hme:fS B bm=fS B (.fm n c w cl pre [] (y::post)))(hmf:gm bm=false)(hw:bJ s.heap w=some bw)(Vz:gm bw=true)(hwe:eX B w bw=eX B w (.fr c cl pre 0 (y::post)))(hc:pre.length<cU)
  (hC:Y0 B m w ids (Ht B m w n c cl pre y post ids s) s=true):vO (λid=>if id<s.cr then id else w+1+B.K c*pre.length+(id-s.cr)) (dA B (Ht B m w n c cl pre y post ids s)) (dA B s):=by
 simp only[Y0,fE,qn]at hC;obtain⟨⟨⟨⟨⟨⟨w1,w2⟩,w3⟩,w4⟩,d1⟩,d2⟩,d3⟩:=hC;have low: ∀{id b},bJ s.heap id=some b->id<s.cr:=λhg=>by have:=dV w4 hg;simpa[ru]using this
 have E5: ∀{k b id x},bJ s.heap k=some b->bJ (eX B k b) id=some x->id<s.cr:=λ{k b id x}hg hx=>by
  obtain⟨f1,f2⟩:=fh hx;have:=dV w3 hg;simp only[f1,qc,Ii]at this;have:=tR this;obtain⟨o1,o2⟩:=fi f2;omega
 have abb:(dA B s).cr=s.cr:=rfl;have hmw:m≠w:=λe=>by subst e;rw[hm]at hw;cases hw;rw[hmf]at Vz;cases Vz
 have hwb:fS B bw=.cells 1 []:=by
  obtain⟨_,_,_,_,_,rfl⟩:=lZ Vz;rfl
 have key: ∀{id b},bJ (Ht B m w n c cl pre y post ids s).heap id=some b->(s.cr<=id/\ ∃z,(B.Z c s.cr y)[id-s.cr]? =some z/\b=toTB z)\/(id=m/\b=.fm n c w cl pre [B.Y c s.cr y] post)\/(id=w/\b=.fr c cl pre 1 post)\/(id≠m/\id≠w/\bJ s.heap id=some b):=λ{id b}hg=>by
  simp only[Ht]at hg;rw[dp,BS]at hg;by_cases eP:s.cr<=id
  ·rw[dP eP]at hg;cases hz:(B.Z c s.cr y)[id-s.cr]? with
   |some z=>rw[hz]at hg;cases hg;exact .inl ⟨eP,z,rfl,rfl⟩
   |none=>
    exfalso;rw[hz]at hg;simp only[Su,cZ]at hg;have:=low hm;have:=low hw;rw[dY (by omega),dY (by omega)]at hg;have:=low (iW hg);omega
  ·rw[dY eP]at hg;simp only[cZ]at hg;split at hg
   ·rename_i e;cases hg;exact .inr (.inl ⟨e.symm,rfl⟩)
   ·split at hg
    ·rename_i e;cases hg;exact .inr (.inr (.inl ⟨e.symm,rfl⟩))
    ·rename_i e1 e2;exact .inr (.inr (.inr ⟨λe=>e1 e.symm,λe=>e2 e.symm,iW hg⟩))
 have row: ∀{k b id x},bJ (Ht B m w n c cl pre y post ids s).heap k=some b->bJ (eX B k b) id=some x-> ∃b',bJ s.heap k=some b'/\bJ (eX B k b') id=some x/\(k=w->bJ (eX B w (.fr c cl pre 1 post)) id=some x):=λ{k b id x}hg hx=>by
  obtain⟨f1,f2⟩:=fh hx;rcases key hg with⟨_,z,_,rfl⟩|⟨rfl,rfl⟩|⟨rfl,rfl⟩|⟨h1,h2,h3⟩
  ·rw[toTB_fr]at f1;cases f1
  ·cases f1
  ·exact⟨_,hw,by rw[hwe];exact(uM hc).2 (.inl hx),λ_=>hx⟩
  ·exact⟨b,h3,hx,λe=>absurd e h2⟩
 have ok: ∀j,j<B.K c->gR (dA B s).cr (dA B (Ht B m w n c cl pre y post ids s)).heap (s.cr+j)=true:=λj hj=>by
  obtain⟨z,hz⟩: ∃z,(B.Z c s.cr y)[j]? =some z:=⟨_,dR (by rw[(B.hF c).hz];exact hj)⟩;refine qL (b:=fS B (toTB z)) (dE (b:=toTB z) ?_);simp only[Ht];rw[dp,BS,dP (by omega),show s.cr+j-s.cr=j from by omega,hz];rfl
 have JU:=(B.hF c).hr (gR (dA B s).cr (dA B (Ht B m w n c cl pre y post ids s)).heap) (λid=>if id<s.cr then id else w+1+B.K c*pre.length+(id-s.cr)) s.cr (w+1+B.K c*pre.length) y λj hj=>⟨ok j hj,by
  rw[dY (by omega)];omega⟩
 have same: ∀{i:Nat}{l:List (B.S c)},sF (gR (dA B s).cr (dA B (Ht B m w n c cl pre y post ids s)).heap) (λid=>if id<s.cr then id else w+1+B.K c*pre.length+(id-s.cr)) (iE B c w i l) (iE B c w i l):=λ{i l}=>rX λid x hx=>by
  have fB:=pQ hx;obtain⟨o1,o2⟩:=fi fB;have:=dV w3 hw;simp only[Vz,qc,Ii]at this;have:=tR this;exact⟨oS (by show id<s.cr;omega),by rw[dP (by omega)];omega⟩
 refine .mk0 ?_ (λid hl=>dP hl) ?_ ?_ (by show s.cr<=s.cr+B.K c;omega) ?_
 ·intro id b hb;rcases gS w2 hb with⟨b0,hg,rfl⟩|⟨_,k,b0,hg,hr⟩
  ·rcases key hg with⟨eP,z,hz,rfl⟩|⟨rfl,rfl⟩|⟨rfl,rfl⟩|⟨h1,h2,h3⟩
   ·have hl:id-s.cr<B.K c:=by rw[<-(B.hF c).hz s.cr y];exact(fT.1 hz).1
    have DV:(B.Z c (w+1+B.K c*pre.length) y)[id-s.cr]? =some ((B.Z c (w+1+B.K c*pre.length) y)[id-s.cr]'(by rw[(B.hF c).hz];exact hl)):=dR _;refine⟨_,?_,.inr (by rw[toTB_er];exact JU.2 _ _ _ hz DV)⟩;rw[dY (by omega)];refine jm w1 hw ?_;rw[hwe];refine(uM hc).2 (.inr ?_);rw[kE,dP (by omega),show w+1+B.K c*pre.length+(id-s.cr)-(w+1+B.K c*pre.length)=id-s.cr from by omega,DV];rfl
   ·refine⟨fS B (.fm n c w cl pre [] (y::post)),?_,.inr ?_⟩
    ·rw[dP (low hm),<-hme];exact dE hm
    ·simp only[fS,eB,Ih,Pw,DO,sA];rw[kF hc];refine .cells (.p ?_ (.k JU.1 same));cases cl with
     |true=>exact .r (lG c pre)
     |false=>exact same
   ·refine⟨fS B (.fr c cl pre 0 (y::post)),?_,.inl rfl⟩;rw[dP (low hw)];exact(dE hw).trans (by rw[hwb];rfl)
   ·refine⟨_,?_,.inl rfl⟩;rw[dP (low h3)];exact dE h3
  ·obtain⟨b',g1,g2,_⟩:=row hg hr;refine⟨_,?_,.inl rfl⟩;rw[dP (E5 g1 g2)];exact jm w1 g1 g2
 ·intro id fL b b' hb oM e;have nm: ∀{id b},bJ (dA B (Ht B m w n c cl pre y post ids s)).heap id=some b->id<s.cr-> ∀j,j<B.K c->id≠w+1+B.K c*pre.length+j:=λ{id b}hb hl j hj e=>by
   have hz:=rW (r:=w+1+B.K c*pre.length) (y:=y) hj;obtain⟨z,hz⟩:=hz;have JU:=(uM (cl:=cl) (post:=post) hc).2 (.inr hz);have fB:=(fh JU).2;rcases gS w2 hb with⟨b0,hg,rfl⟩|⟨_,k,b0,hg,hr⟩
   ·have hk: ∃b1,bJ s.heap id=some b1:=by
     rcases key hg with⟨eP,_⟩|⟨rfl,_⟩|⟨rfl,_⟩|⟨_,_,h3⟩
     ·omega
     ·exact⟨_,hm⟩
     ·exact⟨_,hw⟩
     ·exact⟨_,h3⟩
    obtain⟨b1,h1⟩:=hk;have:=iV w1 hw h1 Vz;rw[e,fB]at this;cases this
   ·obtain⟨b1,g1,g2,g3⟩:=row hg hr;obtain⟨f1,f2⟩:=fh g2;have hkw:=mA w1 g1 hw f1 Vz f2 (by rw[e];exact fB);have:=g3 hkw;simp only[eX]at this;rw[dp]at this;split at this
    ·rename_i z hq;cases cl with
     |true=>simp[di]at hq
     |false=>have h4:=(pT hq).2;simp at h4;omega
    ·have h4:=(pT this).1;rw[V0]at h4;omega
  have hi: ∀{id b},bJ (dA B (Ht B m w n c cl pre y post ids s)).heap id=some b-> ¬id<s.cr->id-s.cr<B.K c:=λ{id b}hb hl=>by
   rcases gS w2 hb with⟨b0,hg,rfl⟩|⟨_,k,b0,hg,hr⟩
   ·rcases key hg with⟨_,z,hz,_⟩|⟨rfl,_⟩|⟨rfl,_⟩|⟨_,_,h3⟩
    ·rw[<-(B.hF c).hz s.cr y];exact(fT.1 hz).1
    ·exact absurd (low hm) hl
    ·exact absurd (low hw) hl
    ·exact absurd (low h3) hl
   ·obtain⟨b1,g1,g2,_⟩:=row hg hr;exact absurd (E5 g1 g2) hl
  by_cases h1:id<s.cr<;>by_cases h2:fL<s.cr
  ·rw[dP h1,dP h2]at e;exact e
  ·rw[dP h1,dY h2]at e;exact absurd e (nm hb h1 _ (hi oM h2))
  ·rw[dY h1,dP h2]at e;exact absurd e.symm (nm oM h2 _ (hi hb h1))
  ·rw[dY h1,dY h2]at e;omega
 ·intro id b hb;show id<s.cr+B.K c;rcases gS w2 hb with⟨b0,hg,rfl⟩|⟨_,k,b0,hg,hr⟩
  ·rcases key hg with⟨_,z,hz,_⟩|⟨rfl,_⟩|⟨rfl,_⟩|⟨_,_,h3⟩
   ·have:id-s.cr<B.K c:=by rw[<-(B.hF c).hz s.cr y];exact(fT.1 hz).1
    omega
   ·have:=low hm;omega
   ·have:=low hw;omega
   ·have:=low h3;omega
  ·obtain⟨b1,g1,g2,_⟩:=row hg hr;have:=E5 g1 g2;omega
 ·intro id hd;rcases gS w1 hd with⟨b,hg,hb⟩|⟨hn,k,b,hg,hr⟩
  ·have:=mV d3 id (by rw[gi,hg,gX,<-hb]);simp only[dA];rw[dp,this]
  ·exact(nr hr).elim
def Dc(B:jg)(m n c:Nat)(x:List (B.S c))(ids:List Nat)(s:dZ B.S):dZ B.S:=
 ⟨(m,.fm n c s.cr false x [] [])::(s.cr,.fr c false x 0 [])::ly ids s.heap,s.cr+sH+1⟩
def shC(B:jg)(m w r k:Nat)(ids:List Nat)(S2 s:dZ B.S):Bool:=
 pz s.heap&&pz S2.heap&&zg s.cr s.heap&&(s.heap.all λp=>Nat.blt p.1 s.cr)&&!(jG m ids)&&!(jG w ids)&&(ids.all λi=>!(Nat.ble r i&&Nat.blt i (r+k)))&&yQ (kP B s.heap) (kP B S2.heap)
theorem KI{r:Nat}{x:List (B.S c)}(hx:x=pre++y::post)(hm:bJ s.heap m=some (.fm n c w false pre [B.Y c r y] post))(hw:bJ s.heap w=some (.fr c false pre 1 post))(hz: ∀p∈qW r (B.Z c r y),bJ s.heap p.1=some p.2)(hc:pre.length<cU)
  (hC:shC B m w r (B.K c) ids (Dc B m n c x ids s) s=true):
  vO (λid=>if id<s.cr then id else if s.cr+1+B.K c*pre.length<=id/\id<s.cr+1+B.K c*pre.length+B.K c then r+(id-(s.cr+1+B.K c*pre.length))else w+(id-s.cr)) (dA B (Dc B m n c x ids s)) (dA B s):=by
 simp only[shC,fE,qn]at hC;obtain⟨⟨⟨⟨⟨⟨⟨w1,w2⟩,w3⟩,w4⟩,d1⟩,d2⟩,d4⟩,d3⟩:=hC;have low: ∀{id b},bJ s.heap id=some b->id<s.cr:=λhg=>by have:=dV w4 hg;simpa[ru]using this
 have E5: ∀{k b id x},bJ s.heap k=some b->bJ (eX B k b) id=some x->id<s.cr:=λ{k b id x}hg hx=>by
  obtain⟨f1,f2⟩:=fh hx;have:=dV w3 hg;simp only[f1,qc,Ii]at this;have:=tR this;obtain⟨o1,o2⟩:=fi f2;omega
 have hwl:=low hw;have PH:=low hm;have hwc:w+sH<=s.cr:=by
  have:=dV w3 hw;simp only[gm,qc,Ii]at this;exact tR this
 have hz: ∀j z,(B.Z c r y)[j]? =some z->bJ s.heap (r+j)=some (toTB z):=λj z hj=>by
  refine hz (r+j,toTB z) ?_;have: ∀{l:List (ZB B.S)}{r j:Nat},l[j]? =some z->(r+j,toTB z)∈qW r l:=by
   intro l
   induction l with
   |nil=>intro r j h;simp at h
   |cons a q ih=>
    intro r j h;cases j with
    |zero=>simp at h;subst h;simp[qW]
    |succ j=>
     simp only[qW,mZ];right;have:=ih (r:=r+1) (j:=j) (by simpa using h);rw[show r+(j+1)=r+1+j from by omega];exact this
  exact this hj
 have Y1: ∀j,j<B.K c-> ∃z,(B.Z c r y)[j]? =some z:=λj hj=>⟨_,dR (by rw[(B.hF c).hz];exact hj)⟩;have key: ∀{id b},bJ (Dc B m n c x ids s).heap id=some b->(id=m/\b=.fm n c s.cr false x [] [])\/(id=s.cr/\b=.fr c false x 0 [])\/(id≠m/\id≠w/\id<s.cr/\bJ s.heap id=some b/\ ∀j,j<B.K c->id≠r+j):=λ{id b}hg=>by
  simp only[Dc,cZ]at hg;split at hg
  ·rename_i e;cases hg;exact .inl ⟨e.symm,rfl⟩
  ·split at hg
   ·rename_i e;cases hg;exact .inr (.inl ⟨e.symm,rfl⟩)
   ·rename_i e1 e2;have fB:=uL hg;refine .inr (.inr ⟨λe=>e1 e.symm,λe=>(by rw[e,d2]at fB;cases fB),low (iW hg),iW hg,λj hj e=>?_⟩);unfold jG at fB;obtain⟨i,hi,hb⟩:=AO.1 fB;have:=pA.1 d4 i hi;have hb:=jn hb;subst hb;subst e;rw[VY (by omega),Kp (by omega)]at this;cases this
 have hL:iE B c s.cr 0 x=iE B c s.cr 0 pre++(B.Y c (s.cr+1+B.K c*pre.length) y).er B.E::iE B c s.cr (pre.length+1) post:=by
  rw[hx,zF,Cd,kF hc]
 have rL:eX B s.cr (.fr c false x 0 [])=gy B c s.cr 0 x:=by simp[eX,gy]
 have Bc: ∀{id b},bJ (gy B c s.cr 0 x) id=some b↔(bJ (eX B s.cr (.fr c false pre 1 post)) id=some b\/bJ (j0 B (s.cr+1+B.K c*pre.length) (B.Z c (s.cr+1+B.K c*pre.length) y)) id=some b):=λ{id b}=>by
  rw[<-uM (cl:=false) hc,hx,zG,Cd];simp[eX]
 have row: ∀{k b id x0},bJ (Dc B m n c x ids s).heap k=some b->bJ (eX B k b) id=some x0->(k=s.cr/\(bJ (eX B s.cr (.fr c false pre 1 post)) id=some x0\/bJ (j0 B (s.cr+1+B.K c*pre.length) (B.Z c (s.cr+1+B.K c*pre.length) y)) id=some x0))\/(k≠w/\bJ s.heap k=some b):=λ{k b id x0}hg hr=>by
  obtain⟨f1,f2⟩:=fh hr;rcases key hg with⟨rfl,rfl⟩|⟨rfl,rfl⟩|⟨_,h2,_,h3,_⟩
  ·cases f1
  ·rw[rL]at hr;exact .inl ⟨rfl,Bc.1 hr⟩
  ·exact .inr ⟨h2,h3⟩
 have side: ∀{v id b},bJ (eX B v (.fr c false pre 1 post)) id=some b->v<id/\id<v+sH/\(id<v+1+B.K c*pre.length\/v+1+B.K c*pre.length+B.K c<=id):=λ{v id b}h=>by
  obtain⟨o1,o2⟩:=fi (fh h).2;refine⟨o1,o2,?_⟩;simp only[eX,dD]at h;rw[dp]at h;split at h
  ·rename_i z hq;have:=(pT hq).2;rw[Cd]at this;exact .inl this
  ·have h4:=(pT h).1;rw[V0]at h4;right;omega
 have En: ∀{id b},bJ (eX B s.cr (.fr c false pre 1 post)) id=some b->(if id<s.cr then id else if s.cr+1+B.K c*pre.length<=id/\id<s.cr+1+B.K c*pre.length+B.K c then r+(id-(s.cr+1+B.K c*pre.length))else w+(id-s.cr))=w+(id-s.cr):=λ{id b}h=>by
  obtain⟨o1,o2,o3⟩:=side h;rw[dY (by omega),dY (by omega)]
 have Y2: ∀{id b},bJ (gy B c s.cr 0 x) id=some b->gR (dA B s).cr (dA B (Dc B m n c x ids s)).heap id=true:=λ{id b}h=>
  qL (jm (w:=s.cr) (b:=.fr c false x 0 []) w2 (by simp only[Dc,cZ];rw[dY (by omega)];simp) (by rw[rL];exact h))
 have JU:=(B.hF c).hr (gR (dA B s).cr (dA B (Dc B m n c x ids s)).heap) (λid=>if id<s.cr then id else if s.cr+1+B.K c*pre.length<=id/\id<s.cr+1+B.K c*pre.length+B.K c then r+(id-(s.cr+1+B.K c*pre.length))else w+(id-s.cr)) (s.cr+1+B.K c*pre.length) r y λj hj=>⟨by
  obtain⟨z,hz⟩:=rW (r:=s.cr+1+B.K c*pre.length) (y:=y) hj;exact Y2 (Bc.2 (.inr hz)),by
  rw[dY (by omega),dP (by omega)];omega⟩
 have kO: ∀{id b},bJ (gy B c s.cr 0 pre) id=some b->bJ (eX B s.cr (.fr c false pre 1 post)) id=some b:=λ{id b}h=>by
  simp only[eX,dD];rw[dp,h]
 have qJ: ∀{id b},bJ (gy B c s.cr (pre.length+1) post) id=some b-> ∃b',bJ (eX B s.cr (.fr c false pre 1 post)) id=some b':=λ{id b}h=>by
  simp only[eX,dD];rw[dp];cases hq:bJ (gy B c s.cr 0 pre) id with
  |some z=>exact⟨z,rfl⟩
  |none=>exact⟨b,h⟩
 have cy: ∀{id b},bJ (dA B (Dc B m n c x ids s)).heap id=some b->(id<s.cr/\id≠w/\(∃b',bJ (dA B s).heap id=some b')/\(∀j,j<B.K c->id≠r+j)/\gb w id=true)\/(id=s.cr)\/(bJ (eX B s.cr (.fr c false pre 1 post)) id=some b)\/(bJ (j0 B (s.cr+1+B.K c*pre.length) (B.Z c (s.cr+1+B.K c*pre.length) y)) id=some b):=λ{id b}hb=>by
  rcases gS w2 hb with⟨b0,hg,rfl⟩|⟨_,k,b0,hg,hr⟩
  ·rcases key hg with⟨rfl,_⟩|⟨h,_⟩|⟨h1,h2,h3,h4,h5⟩
   ·refine .inl ⟨PH,λe=>(by subst e;rw[hm]at hw;cases hw),⟨_,dE hm⟩,λj hj e=>?_,iV w1 hw hm rfl⟩;obtain⟨z,Ge⟩:=Y1 j hj;have:=hz j z Ge;rw[<-e,hm]at this;cases z<;>cases this
   ·exact .inr (.inl h)
   ·exact .inl ⟨h3,h2,⟨_,dE h4⟩,h5,iV w1 hw h4 rfl⟩
  ·rcases row hg hr with⟨_,h|h⟩|⟨h1,h2⟩
   ·exact .inr (.inr (.inl h))
   ·exact .inr (.inr (.inr h))
   ·obtain⟨f1,f2⟩:=fh hr;refine .inl ⟨E5 h2 hr,λe=>?_,⟨_,jm w1 h2 hr⟩,λj hj e=>?_,?_⟩
    ·subst e;rw[iV w1 h2 hw f1]at f2;cases f2
    ·obtain⟨z,Ge⟩:=Y1 j hj;have:=iV w1 h2 (hz j z Ge) f1;rw[<-e,f2]at this;cases this
    ·cases ho:gb w id with
     |true=>rfl
     |false=>exact absurd (mA w1 hw h2 rfl f1 ho f2).symm h1
 refine .mk0 ?_ (λid hl=>dP hl) ?_ ?_ (by show s.cr<=s.cr+sH+1;omega) ?_
 ·intro id b hb;rcases gS w2 hb with⟨b0,hg,rfl⟩|⟨_,k,b0,hg,hr⟩
  ·rcases key hg with⟨rfl,rfl⟩|⟨rfl,rfl⟩|⟨h1,h2,h3,h4,h5⟩
   ·refine⟨fS B (.fm n c w false pre [B.Y c r y] post),?_,.inr ?_⟩
    ·rw[dP PH];exact dE hm
    ·simp only[fS,eB,Ih,Pw,dD,sA,iE];rw[hL,xD];refine .cells (.p ?_ (.k JU.1 ?_))
     ·exact rX λid x0 h=>⟨Y2 (Bc.2 (.inl (kO h))),En (kO h)⟩
     ·exact rX λid x0 h=>by
       obtain⟨b',h'⟩:=qJ h;exact⟨Y2 (Bc.2 (.inl h')),En h'⟩
   ·refine⟨fS B (.fr c false pre 1 post),?_,.inl rfl⟩;rw[dY (by omega),dY (by omega),Pt,DO];exact dE hw
   ·refine⟨_,?_,.inl rfl⟩;rw[dP h3];exact dE h4
  ·rcases row hg hr with⟨_,h|h⟩|⟨h1,h2⟩
   ·obtain⟨x',q1,q2⟩:=uD (w':=w) (ok:=gR (dA B s).cr (dA B (Dc B m n c x ids s)).heap) (π:=λid=>if id<s.cr then id else if s.cr+1+B.K c*pre.length<=id/\id<s.cr+1+B.K c*pre.length+B.K c then r+(id-(s.cr+1+B.K c*pre.length))else w+(id-s.cr)) (λid x0 h=>⟨Y2 (Bc.2 (.inl h)),En h⟩) id b h;exact⟨x',by rw[En h];exact jm w1 hw q1,.inr q2⟩
   ·obtain⟨g1,g2⟩:=jr h;rw[kE,dP g1]at h;obtain⟨z,IV,DV⟩:=D5.1 h;obtain⟨z',Ge⟩:=Y1 (id-(s.cr+1+B.K c*pre.length)) (by omega);refine⟨_,?_,.inr (by rw[<-DV];exact JU.2 _ _ _ IV Ge)⟩;rw[dY (by omega),dP (by omega),<-toTB_er];exact dE (hz _ _ Ge)
   ·exact⟨b,by rw[dP (E5 h2 hr)];exact jm w1 h2 hr,.inl rfl⟩
 ·intro id fL b b' hb oM e;have Y3: ∀j,j<B.K c->r+j<s.cr/\r+j≠w/\gb w (r+j)=true:=λj hj=>by
   obtain⟨z,Ge⟩:=Y1 j hj;have:=hz j z Ge;refine⟨low this,λe=>?_,iV w1 hw this rfl⟩;rw[e,hw]at this;cases z<;>cases this
  rcases cy hb with⟨a1,a2,_,a3,a4⟩|h|h|h<;>rcases cy oM with⟨c1,c2,_,c3,c4⟩|h'|h'|h'
  ·rw[dP a1,dP c1]at e;exact e
  ·rw[dP a1,h',dY (by omega),dY (by omega)]at e;omega
  ·rw[dP a1,En h']at e;obtain⟨o1,o2,_⟩:=side h';rw[e,lQ (by omega) (by omega)]at a4;cases a4
  ·obtain⟨g1,g2⟩:=jr h';rw[dP a1,dY (by omega),dP (by omega)]at e;exact absurd e (a3 _ (by omega))
  ·rw[dP c1,h,dY (by omega),dY (by omega)]at e;omega
  ·omega
  ·rw[En h',h,dY (by omega),dY (by omega)]at e;obtain⟨o1,_⟩:=side h';omega
  ·obtain⟨g1,g2⟩:=jr h';rw[h,dY (by omega),dY (by omega),dY (by omega),dP (by omega)]at e;exact absurd e.symm (by rw[Pt,DO];exact(Y3 _ (by omega)).2.1)
  ·rw[dP c1,En h]at e;obtain⟨o1,o2,_⟩:=side h;rw[<-e,lQ (by omega) (by omega)]at c4;cases c4
  ·rw[En h,h',dY (by omega),dY (by omega)]at e;obtain⟨o1,_⟩:=side h;omega
  ·rw[En h,En h']at e;obtain⟨o1,_⟩:=side h;obtain⟨o2,_⟩:=side h';omega
  ·obtain⟨g1,g2⟩:=jr h';rw[En h,dY (by omega),dP (by omega)]at e;obtain⟨o1,o2,_⟩:=side h;have:=(Y3 (fL-(s.cr+1+B.K c*pre.length)) (by omega)).2.2;rw[<-e,lQ (by omega) (by omega)]at this;cases this
  ·obtain⟨g1,g2⟩:=jr h;rw[dP c1,dY (by omega),dP (by omega)]at e;exact absurd e.symm (c3 _ (by omega))
  ·obtain⟨g1,g2⟩:=jr h;rw[h',dY (by omega),dP (by omega),dY (by omega),dY (by omega)]at e;exact absurd e (by rw[Pt,DO];exact(Y3 _ (by omega)).2.1)
  ·obtain⟨g1,g2⟩:=jr h;rw[En h',dY (by omega),dP (by omega)]at e;obtain⟨o1,o2,_⟩:=side h';have:=(Y3 (id-(s.cr+1+B.K c*pre.length)) (by omega)).2.2;rw[e,lQ (by omega) (by omega)]at this;cases this
  ·obtain⟨g1,g2⟩:=jr h;obtain⟨g3,g4⟩:=jr h';rw[dY (by omega),dP (by omega),dY (by omega),dP (by omega)]at e;omega
 ·intro id b hb;show id<s.cr+sH+1;rcases cy hb with⟨a1,_⟩|h|h|h
  ·omega
  ·omega
  ·have:=(side h).2.1;omega
  ·have:=(fi (pQ (Bc.2 (.inr h)))).2;omega
 ·intro id hd;rcases gS w1 hd with⟨b,hg,hb⟩|⟨hn,k,b,hg,hr⟩
  ·have:=mV d3 id (by rw[gi,hg,gX,<-hb]);simp only[dA];rw[dp,this]
  ·exact(nr hr).elim
theorem pU{α:Type}{x:List α}{i:Int}{y:α}(h:ix x i=some y):x=x.take i.toNat++y::x.drop (i.toNat+1)/\(x.take i.toNat).length=i.toNat:=by
 obtain⟨_,hy⟩:=P2 h;obtain⟨hl,e⟩:=fT.1 hy;refine⟨?_,by rw[F7];omega⟩;have:=Lk i.toNat x;rw[ZO hl,e]at this;exact this.symm
theorem E6{α:Type}{x:List α}{i:Int}{y z:α}(h:ix x i=some y):x.set i.toNat z=x.take i.toNat++z::x.drop (i.toNat+1):=by
 obtain⟨_,hy⟩:=P2 h;rw[List.set_eq_take_append_cons_drop,dP (fT.1 hy).1]
theorem uN{α:Type}{x:List α}{i:Int}{y:α}(h:ix x i=some y)(hc:i.toNat<cU):i.toNat=(x.take i.toNat).length/\i.toNat<=cU:=⟨(pU h).2.symm,O8 hc⟩
theorem Xh{c n w i:Nat}{x:List (B.S c)}{y:B.S c}(h:x=x.take i++y::x.drop (i+1))(hl:(x.take i).length=i):fS B (.fm n c w false x [] [])=fS B (.fm n c w false (x.take i) [] (y::x.drop (i+1))):=by
 have:iE B c w 0 x=iE B c w 0 (x.take i)++iE B c w i (y::x.drop (i+1)):=by
  conv=>lhs;rw[h,zF,hl,Cd]
 simp only[fS,eB,dD,Ih,DO,sA,iE,xD,this,hl]
theorem Xi{c w i:Nat}{x:List (B.S c)}{y:B.S c}(h:x=x.take i++y::x.drop (i+1))(hl:(x.take i).length=i):eX B w (.fr c false x 0 [])=eX B w (.fr c false (x.take i) 0 (y::x.drop (i+1))):=by
 have:gy B c w 0 x=gy B c w 0 (x.take i)++gy B c w i (y::x.drop (i+1)):=by
  conv=>lhs;rw[h,zG,hl,Cd]
 simp only[eX,dD,DO,gy,xD,this,hl]
end
theorem uO{α:Type}{x:List α}{i:Int}{y:α}(h:ix x i=some y)(hc:i.toNat<cU):(x.take i.toNat).length<cU:=by rw[(pU h).2];exact hc
theorem rY{α:Type}{x:List α}{i:Int}{y:α}(h:ix x i=some y):0<=i/\i<(x.length:Int):=by
 have h1:=aar h;have h0:=(P2 h).1;omega
theorem R1{α:Type}{l:List α}{y:α}(h:ix l 0=some y):l=y::l.drop 1:=by
 have:=(P2 h).2;cases l with
 |nil=>simp at this
 |cons a r=>simp at this;subst this;rfl
section
variable {c n w:Nat} {cl:Bool} {pre post x l:List (B.S c)} {y:B.S c}
theorem Xj(h:ix l 0=some y):fS B (.fm n c w cl pre [] l)=fS B (.fm n c w cl pre [] (y::l.drop 1)):=by rw[<-R1 h]
theorem Xk(h:ix l 0=some y):eX B w (.fr c cl pre 0 l)=eX B w (.fr c cl pre 0 (y::l.drop 1)):=by rw[<-R1 h]
theorem clM:fS B (.fm n c w false x [] [])=fS B (.fm n c w true [] [] x):=by simp[fS,iE,eB]
theorem clW:eX B w (.fr c false x 0 [])=eX B w (.fr c true [] 0 x):=by simp[eX,gy]
theorem shM{v:TV B.S}(h:B.E c y=v.er B.E):fS B (.fm n c w true pre [v] post)=fS B (.fm n c w true (pre++[y]) [] post):=by simp[fS,eB,h]
theorem shW:eX B w (.fr c true pre 1 post)=eX B w (.fr c true (pre++[y]) 0 post):=by simp[eX]
theorem aaG{k:Nat}(h:post=[]/\k=pre.length):fS B (.fm n c w true pre [] post)=fS B (.ls n c pre k h.2):=by
 obtain⟨h,_⟩:=h;subst h;simp[fS,iE,eB]
end
theorem E7{α:Type}{E:α->AV}(hE: ∀x y,E x=E y->x=y): ∀l m:List α,l.map E=m.map E->l=m
 | [],[],_=>rfl
 | [],_::_,h=>by cases h
 |_::_,[],h=>by cases h
 |a::x,b::y,h=>by
  simp only[wy,List.cons.injEq]at h;rw[hE _ _ h.1,E7 hE x y h.2]
section
variable {P:Program} {N:Nat} {ρ:Option Nat} {Q:Exit->Env->St->Prop} {M:TM B.S}
theorem Hu{o:TO B.S}{k:List Fr}{bX:dU B.S}{S2 s:dZ B.S}(ho:ke o=true)(h:G8 N ρ s.cr (eY B bX) (dA B S2) (eY B bX) (dA B s))(hk:kR B P N ρ Q ⟨o,k,bX,S2⟩):kR B P N ρ Q ⟨o,k,bX,s⟩:=by
 cases o<;>simp only[ke]at ho<;>first|(cases ho;done)|skip
 ·have hk:xp P N ρ Q ⟨.run _,k,eY B bX,dA B S2⟩:=hk;exact tg (cn:=s.cr) (eD _) h hk
 ·have hk:xp P N ρ Q ⟨.out _,k,eY B bX,dA B S2⟩:=hk;exact tg (cn:=s.cr) (eD _) h hk
theorem xW{π:Nat->Nat}{o:TO B.S}{k:List Fr}{bX:dU B.S}{S2 s:dZ B.S}(ho:ke o=true)(h:vO π (dA B S2) (dA B s))(hk:kR B P N ρ Q ⟨o,k,bX,S2⟩):kR B P N ρ Q ⟨o,k,bX,s⟩:=Hu ho (E4 h) hk
def Be{S:Nat->Type}(M:TM S)(s:dZ S):TM S:=⟨M.o,M.k,M.bX,s⟩
theorem T8(fN m w n c:Nat)(ids:List Nat){x:List (B.S c)}{i:Int}{y:B.S c}(h:ix x i=some y)(hc:i.toNat<cU)
  (k:RT B P N ρ Q (Be (toReg B P N fN M).1 (Ht B m w n c false (x.take i.toNat) y (x.drop (i.toNat+1)) ids (toReg B P N fN M).1.s)))
  (hx:(ke (toReg B P N fN M).1.o,bJ (toReg B P N fN M).1.s.heap m,bJ (toReg B P N fN M).1.s.heap w,Y0 B m w ids (Ht B m w n c false (x.take i.toNat) y (x.drop (i.toNat+1)) ids (toReg B P N fN M).1.s) (toReg B P N fN M).1.s,(toReg B P N fN M).2.map Prod.fst)=
   (true,some (.fm n c w false x [] []),some (.fr c false x 0 []),true,(toReg B P N fN M).2.map Prod.snd):=by kernel_rfl):RT B P N ρ Q M:=by
 simp only[Prod.mk.injEq]at hx;obtain⟨h1,h2,h3,h4,h5⟩:=hx;refine⟨kr (eo h5) ?_⟩;have k:=k.v;unfold Be at k;show kR B P N ρ Q (toReg B P N fN M).1;obtain⟨e1,e2⟩:=pU h;exact xW h1 (BT h2 (Xh e1 e2) rfl h3 rfl (Xi e1 e2) (by rw[e2];exact hc) h4) k
theorem tOh(fN m w n c:Nat)(ids:List Nat)(cl:Bool)(pre:List (B.S c))(y:B.S c)(post:List (B.S c))(hc:pre.length<cU)
  (k:RT B P N ρ Q (Be (toReg B P N fN M).1 (Ht B m w n c cl pre y post ids (toReg B P N fN M).1.s)))
  (hx:(ke (toReg B P N fN M).1.o,bJ (toReg B P N fN M).1.s.heap m,bJ (toReg B P N fN M).1.s.heap w,Y0 B m w ids (Ht B m w n c cl pre y post ids (toReg B P N fN M).1.s) (toReg B P N fN M).1.s,(toReg B P N fN M).2.map Prod.fst)=
   (true,some (.fm n c w cl pre [] (y::post)),some (.fr c cl pre 0 (y::post)),true,(toReg B P N fN M).2.map Prod.snd):=by kernel_rfl):RT B P N ρ Q M:=by
 simp only[Prod.mk.injEq]at hx;obtain⟨h1,h2,h3,h4,h5⟩:=hx;refine⟨kr (eo h5) ?_⟩;have k:=k.v;unfold Be at k;show kR B P N ρ Q (toReg B P N fN M).1;exact xW h1 (BT h2 rfl rfl h3 rfl rfl hc h4) k
def NC{S:Nat->Type}(h:List (Nat×TB S)):List (Nat×TB S)->List (Option (TB S))
 | []=>[]
 |p::r=>bJ h p.1::NC h r
theorem Dd{h:List (Nat×TB B.S)}: ∀{l:List (Nat×TB B.S)},NC h l=l.map (λp=>some p.2)-> ∀p∈l,bJ h p.1=some p.2
 | [],_,p,hp=>by simp at hp
 |a::r,e,p,hp=>by
  simp only[NC,wy,List.cons.injEq]at e;simp only[mZ]at hp;rcases hp with rfl|hp
  ·exact e.1
  ·exact Dd e.2 p hp
theorem Hv(fN m w n c r:Nat)(ids:List Nat)(pre:List (B.S c))(y:B.S c)(post x:List (B.S c))(hc:pre.length<cU)(he:x=pre++y::post)
  (k:RT B P N ρ Q (Be (toReg B P N fN M).1 (Dc B m n c x ids (toReg B P N fN M).1.s)))
  (hx:(ke (toReg B P N fN M).1.o,bJ (toReg B P N fN M).1.s.heap m,bJ (toReg B P N fN M).1.s.heap w,NC (toReg B P N fN M).1.s.heap (qW r (B.Z c r y)),shC B m w r (B.K c) ids (Dc B m n c x ids (toReg B P N fN M).1.s) (toReg B P N fN M).1.s,(toReg B P N fN M).2.map Prod.fst)=
   (true,some (.fm n c w false pre [B.Y c r y] post),some (.fr c false pre 1 post),(qW r (B.Z c r y)).map (λp=>some p.2),true,(toReg B P N fN M).2.map Prod.snd):=by kernel_rfl):RT B P N ρ Q M:=by
 simp only[Prod.mk.injEq]at hx;obtain⟨h1,h2,h3,h4,h5,h6⟩:=hx;refine⟨kr (eo h6) ?_⟩;have k:=k.v;unfold Be at k;show kR B P N ρ Q (toReg B P N fN M).1;exact xW h1 (KI he h2 h3 (Dd h4) hc h5) k
end
theorem uP{id:Nat}: ∀{k:Nat}{h:List (Nat×gU)}{r:Nat},bJ (G9 r k h) id=if r<=id/\id<r+k then none else bJ h id
 |0,h,r=>by rw[dY (by omega)];rfl
 |k+1,h,r=>by
  simp only[G9];rw[uP (k:=k),fU];by_cases h1:r<=id/\id<r+k
  ·rw[dP h1,dP (by omega)]
  ·rw[dY h1];by_cases h2:r+k=id
   ·rw[dP h2,dP (by omega)]
   ·rw[dY h2,dY (by omega)]
theorem ND{A R:List AV}{e e':AV}(hl:e'.cells.length=e.cells.length){k:Nat}{x':AV}(h:(dB (A++e'::R))[k]? =some x'):
  (∃(j:Nat)(x:AV),e'.cells[j]? =some x'/\e.cells[j]? =some x/\(dB (A++e::R))[k]? =some x)\/(dB (A++e::R))[k]? =some x':=by
 rw[dN,ju]at h |-
 by_cases h1:k<(dB A).length
 ·right;rw[nD h1]at h |-;exact h
 ·rw[qb (by omega)]at h |-
  by_cases h2:k-(dB A).length<e.cells.length
  ·left;rw[nD (by omega)]at h |-
   exact⟨k-(dB A).length,_,h,dR h2,dR h2⟩
  ·right;rw[qb (by omega)]at h |-
   rw[hl]at h;exact h
section
variable {G G1:cx} {s s1:St} {w:World}
theorem eQ.swap(h:eQ G1 s1 w){m n:Nat}{es es':List AV}(hg:bJ s1.heap m=some (.cells n es))(hn:es=[]->es'=[])(hh: ∀r o,G1.own m=some r->w.heap[r.block]? =some o->Holds G1 r (.cells n es') o):
  eQ G1 ⟨eF s1.heap m (.cells n es'),s1.cr⟩ w:=by
 have gs: ∀{i b},bJ (eF s1.heap m (.cells n es')) i=some b->(i=m/\b=.cells n es')\/(i≠m/\bJ s1.heap i=some b):=λ{i b}hi=>by
  rw[ff]at hi;split at hi
  ·cases hi;exact .inl ⟨by omega,rfl⟩
  ·exact .inr ⟨by omega,hi⟩
 have Pb: ∀{i b},bJ (eF s1.heap m (.cells n es')) i=some b-> ∃b0,bJ s1.heap i=some b0:=λ{i b}hi=>by
  rcases gs hi with⟨rfl,_⟩|⟨_,hb⟩
  ·exact⟨_,hg⟩
  ·exact⟨_,hb⟩
 refine⟨h.kS,λi b hi=>?_,λi i' b b' r r' h1 h2 o1 o2 eU=>?_,λi b r o hi ho=>?_,h.cE,λi b hi=>?_⟩
 ·rcases gs hi with⟨rfl,rfl⟩|⟨_,hb⟩
  ·rcases h.heap _ _ hg with⟨r,o,e1,e2,_⟩|⟨e1,sz,h0,e2⟩
   ·exact .inl ⟨r,o,e1,e2,hh r o e1 e2⟩
   ·cases e2;exact .inr ⟨e1,n,h0,by rw[hn rfl]⟩
  ·exact h.heap i b hb
 ·obtain⟨b1,g1⟩:=Pb h1;obtain⟨b2,g2⟩:=Pb h2;exact h.apart i i' b1 b2 r r' g1 g2 o1 o2 eU
 ·obtain⟨b1,g1⟩:=Pb hi;exact h.clear i b1 r o g1 ho
 ·obtain⟨b1,g1⟩:=Pb hi;exact h.lt i b1 g1
theorem Ext.swap(h:Ext G s w G1 s1 w){m n:Nat}{es es':List AV}(hg:bJ s1.heap m=some (.cells n es)):Ext G s w G1 ⟨eF s1.heap m (.cells n es'),s1.cr⟩ w:=
 ⟨h.le,h.os,h.tape,h.output,h.size,h.keep,h.jJ,h.jj,λid b hi=>by
  simp only at hi;rw[ff]at hi;split at hi
  ·rename_i e;subst e;exact h.ids _ _ hg
  ·exact h.ids id b hi,h.cr,λid hd=>by
  have:=h.gK id hd;rw[ff,dY (λe=>by subst e;rw[hg]at this;cases this)];exact this,h.stay,h.drawn⟩
end
theorem R2{c m n v:Nat}(hk:0<B.K c)(DY:gb v m=true): ∀(post pre:List (B.S c))(s:St)(G:cx)(w:World),pre.length+post.length<=cU->eQ G s w->
  bJ s.heap m=some (.cells n (pre.map (B.E c)++iE B c v pre.length post))->(∀id x,bJ (gy B c v pre.length post) id=some x->bJ s.heap id=some x)->
  ∃G' s',eQ G' s' w/\Ext G s w G' s' w/\bJ s'.heap m=some (.cells n ((pre++post).map (B.E c)))/\(∀id b,id≠m->gb v id=true->bJ s.heap id=some b->bJ s'.heap id=some b)/\s'.cr=s.cr
 | [],pre,s,G,w,_,hs,hm,_=>⟨G,s,hs,.refl _ _ _,by simpa[iE]using hm,λ_ _ _ _ h=>h,rfl⟩
 |y::r,pre,s,G,w,hl,hs,hm,hr=>by
  simp only[oC]at hl;have hc:pre.length<cU:=by omega
  rw[kF hc]at hm;rw[lF hc]at hr;have hF:=B.hF c;have hz: ∀(j:Nat)(z:ZB B.S),(B.Z c (v+1+B.K c*pre.length) y)[j]? =some z->bJ s.heap (v+1+B.K c*pre.length+j)=some (MC (Gk B.E z)):=λj z hz=>by
   refine hr _ _ ?_;rw[dp,kE,dP (by omega),show v+1+B.K c*pre.length+j-(v+1+B.K c*pre.length)=j from by omega,hz];rfl
  obtain⟨G1,s1,x1,hv⟩:=hF.hf (v+1+B.K c*pre.length) y s G w hs hz;have nin: ∀{id},gb v id=true-> ¬(v+1+B.K c*pre.length<=id/\id<v+1+B.K c*pre.length+B.K c):=λ{id}ho hq=>by
   have hk4:=hF.hk;have:B.K c*pre.length<=4*4095:=Nat.mul_le_mul hk4 (by unfold cU at hc;omega);rw[lQ (by omega) (by unfold sH;omega)]at ho;cases ho
  have DZ:bJ (G9 (v+1+B.K c*pre.length) (B.K c) s.heap) m=some (.cells n (pre.map (B.E c)++(B.Y c (v+1+B.K c*pre.length) y).er B.E::iE B c v (pre.length+1) r)):=by
   rw[uP,dY (nin DY)];exact hm
  have dJ:(B.E c y).cells.length=((B.Y c (v+1+B.K c*pre.length) y).er B.E).cells.length:=by rw[B.hw,hF.hw]
  have T9:=s1.swap (es':=(pre++[y]).map (B.E c)++iE B c v (pre.length+1) r) DZ (λe=>by simp at e) λrg o ho hw=>by
   rcases hs.heap m _ hm with⟨r',o',e1,e2,e3⟩|⟨e1,sz,_,e2⟩
   ·have:=x1.le.own _ _ e1;rw[ho]at this;cases this;rw[hw]at e2;cases e2;cases e3 with
    |cells _ _ cs e eG eE h0 ja jH fB hV=>
     refine .cells _ _ cs e eG eE h0 (λx hx=>?_) (λx hx=>?_) (by simpa using fB) λk x hx=>?_
     ·simp only[Cf,wy,Pv,Ig,yh,sA,lT,mZ]at hx;rcases hx with h|rfl|h
      ·exact ja x (by simp[h])
      ·rw[dJ];exact ja _ (by simp)
      ·exact ja x (by simp[h])
     ·simp only[Cf,wy,Pv,Ig,yh,sA]at hx;rw[dN,ju]at hx;simp only[lT]at hx;rcases hx with h|h|h
      ·exact jH x (by rw[dN];simp[h])
      ·exact hF.hs hk y x h
      ·exact jH x (by rw[dN,ju];simp[h])
     ·simp only[Cf,wy,Pv,Ig,yh,sA]at hx;rcases ND dJ hx with⟨j,x0,q1,q2,q3⟩|q
      ·obtain⟨u,p1,p2⟩:=hV k x0 q3;exact⟨u,p1,hv j x0 x u q2 q1 p2⟩
      ·obtain⟨u,p1,p2⟩:=hV k x q;exact⟨u,p1,p2.mono x1.le⟩
   ·exfalso;have:=fC (λb=>match b with|gU.cells _ l=>l.length|_=>0) e2;simp at this
  have x2:=x1.swap (es':=(pre++[y]).map (B.E c)++iE B c v (pre.length+1) r) DZ;have eU: ∀{id x},bJ (gy B c v (pre.length+1) r) id=some x->id≠m/\ ¬(v+1+B.K c*pre.length<=id/\id<v+1+B.K c*pre.length+B.K c):=λ{id x}h=>by
   refine⟨λe=>?_,λhq=>?_⟩
   ·subst e;rw[pQ h]at DY;cases DY
   ·have:=(pT h).1;rw[V0]at this;omega
  obtain⟨G',s',a1,a2,a3,a4,a5⟩:=R2 hk DY r (pre++[y]) _ G1 w (by simp only[lu,Pw];omega) T9 (by
   rw[ff,dP rfl,lu,Pw]) λid x h=>by
   rw[lu,Pw]at h;obtain⟨n1,n2⟩:=eU h;simp only;rw[ff,dY (λe=>n1 e.symm),uP,dY n2];refine hr id x ?_;rw[dp];split
   ·rename_i z hq;exact absurd (jr hq) n2
   ·exact h
  refine⟨G',s',a1,x2.trans hs a2,by rw[a3];simp,λid b h1 h2 h3=>?_,a5⟩;refine a4 id b h1 h2 ?_;simp only;rw[ff,dY (λe=>h1 e.symm),uP,dY (nin h2)];exact h3
section
variable {P:Program} {N:Nat} {ρ:Option Nat} {Q:Exit->Env->St->Prop} {M:TM B.S}
def Ua(m n c:Nat)(x:List (B.S c))(ids:List Nat)(s:dZ B.S):dZ B.S:=⟨(m,.lz n c x)::ly ids s.heap,s.cr⟩
def faC(B:jg)(m w c:Nat)(ids:List Nat)(S2 s:dZ B.S):Bool:=
 pz s.heap&&pz S2.heap&&!(jG m ids)&&!(jG w ids)&&gb w m&&Nat.blt 0 (B.K c)&&yQ (kP B s.heap) (kP B S2.heap)
theorem Xl(fN m w n c:Nat)(ids:List Nat)(x:List (B.S c))(hl:x.length<=cU)
  (k:RT B P N ρ Q (Be (toReg B P N fN M).1 (Ua m n c x ids (toReg B P N fN M).1.s)))
  (hx:(ke (toReg B P N fN M).1.o,bJ (toReg B P N fN M).1.s.heap m,bJ (toReg B P N fN M).1.s.heap w,faC B m w c ids (Ua m n c x ids (toReg B P N fN M).1.s) (toReg B P N fN M).1.s,(toReg B P N fN M).2.map Prod.fst)=
   (true,some (.fm n c w false x [] []),some (.fr c false x 0 []),true,(toReg B P N fN M).2.map Prod.snd):=by kernel_rfl):RT B P N ρ Q M:=by
 simp only[Prod.mk.injEq]at hx;obtain⟨h1,h2,h3,h4,h5⟩:=hx;refine⟨kr (eo h5) ?_⟩;have k:=k.v;unfold Be at k;show kR B P N ρ Q (toReg B P N fN M).1;generalize(toReg B P N fN M).1=g at *;obtain⟨o,kk,bX,s⟩:=g;simp only at h1 h2 h3 h4 k;refine Hu h1 ?_ k;simp only[faC,fE,qn,ru]at h4;obtain⟨⟨⟨⟨⟨⟨w1,w2⟩,d1⟩,d2⟩,d3⟩,hk⟩,d4⟩:=h4;intro G0 s0 w0 G w' a hb h0 hx hn;have hm:=dE h2;simp only[fS,eB,dD,Ih,sA,iE,xD]at hm;obtain⟨G',s',a1,a2,a3,a4,a5⟩:=R2 hk d3 x [] (dA B s) G w' (by simpa using hl) hn.jd (by simpa using hm) λid b hb=>jm w1 h3 (by simpa[eX,gy]using hb);have pK: ∀id b,bJ (dA B (Ua m n c x ids s)).heap id=some b->bJ s'.heap id=some b:=λid b hb=>by
  have kk: ∀{i c'},bJ (Ua m n c x ids s).heap i=some c'->(i=m/\c'=.lz n c x)\/(i≠m/\i≠w/\bJ s.heap i=some c'):=λ{i c'}hg=>by
   simp only[Ua,cZ]at hg;split at hg
   ·rename_i e;cases hg;exact .inl ⟨e.symm,rfl⟩
   ·rename_i e;have fB:=uL hg;exact .inr ⟨λe'=>e e'.symm,λe'=>(by rw[e',d2]at fB;cases fB),iW hg⟩
  rcases gS w2 hb with⟨b0,hg,rfl⟩|⟨_,k,b0,hg,hr⟩
  ·rcases kk hg with⟨rfl,rfl⟩|⟨e1,e2,e3⟩
   ·rw[a3];rfl
   ·exact a4 id _ e1 (iV w1 h3 e3 rfl) (dE e3)
  ·obtain⟨f1,f2⟩:=fh hr;rcases kk hg with⟨rfl,rfl⟩|⟨e1,e2,e3⟩
   ·cases f1
   ·have ho:gb w id=true:=by
     cases ho:gb w id with
     |true=>rfl
     |false=>exact absurd (mA w1 h3 e3 rfl f1 ho f2).symm e2
    refine a4 id b (λe=>?_) ho (jm w1 e3 hr);subst e;rw[iV w1 e3 h2 f1]at f2;cases f2
 have Pa: ∀id,bJ s'.heap id=some .gK->bJ (dA B (Ua m n c x ids s)).heap id=some .gK:=λid hd=>by
  rcases a2.ids id _ hd with⟨b0,D7⟩|JS
  ·by_cases e:id=m
   ·subst e;rw[a3]at hd;cases hd
   ·by_cases ho:gb w id=true
    ·have:=a4 id b0 e ho D7;rw[hd]at this;cases this;rcases gS w1 D7 with⟨b,hg,hb⟩|⟨_,k,b,hg,hr⟩
     ·have:=mV d4 id (by rw[gi,hg,gX,<-hb]);simp only[dA];rw[dp,this]
     ·exact(nr hr).elim
    ·exfalso;rcases a1.heap id _ hd with⟨r,o,e1,e2,e3⟩|⟨_,_,_,e2⟩
     ·cases e3;rcases hn.jd.heap id _ D7 with⟨r',o',q1,q2,q3⟩|⟨q1,_,_,q2⟩
      ·have:=a2.le.own _ _ q1;rw[e1]at this;cases this;rw[e2]at q2;cases q2;cases q3;rcases gS w1 D7 with⟨b,hg,hb⟩|⟨_,k,b,hg,hr⟩
       ·exact ho (iV w1 h3 hg rfl)
       ·exact nr hr
      ·rw[a2.stay id (hn.jd.lt _ _ D7) q1]at e1;cases e1
     ·cases e2
  ·have:=a1.lt id _ hd;rw[a5]at this;have h9:(dA B s).cr=s.cr:=rfl;omega
 have Xm:Ext G' s' w' G' (dA B (Ua m n c x ids s)) w':=Ext.drop pK (by rw[a5];exact eD _) Pa;have RL:=a2.trans hn.jd Xm;exact⟨G',⟨a1.drop pK (by rw[a5];exact eD _),hn.bX.mono a2.le,hn.size,hn.mM.ext RL,hn.known.le a2.le⟩,hx.trans h0 RL⟩
end
end
end Go.Am
section
namespace Go.Am
open Go.RowKit
variable {S:Nat->Type} {E:(c:Nat)->S c->AV} {W K:Nat->Nat} {Y:(c:Nat)->Nat->S c->TV S} {Z:(c:Nat)->Nat->S c->List (ZB S)} {c:Nat}
theorem fw(hK:K c=0)(hZ: ∀r y,Z c r y=[])(hY: ∀r y,(Y c r y).er E=E c y)(hw: ∀y,(E c y).cells.length=W c)(Ed: ∀y,(E c y).dI=true):BD E W K Y Z c where
 hk:=by rw[hK];exact xC _
 hz:=λr y=>by rw[hZ,hK];rfl
 hw:=λr y=>by rw[hY];exact hw y
 hs:=λh=>by rw[hK]at h;cases h
 hf:=λr y s G w hs _=>⟨G,by rw[hK];exact hs,by rw[hK];exact .refl _ _ _,λj x x' v h1 h2 hv=>by
  rw[hY]at h1;rw[h1]at h2;cases h2;exact hv⟩
 hi:=λh=>by rw[hK]at h;cases h
 hr:=λok π r r' y _=>⟨by rw[hY,hY];exact .c (Ed y),λj b b' h=>by rw[hZ]at h;simp at h⟩
theorem NE{d n:Nat}(L:S c->List (S d))(hK:K c=1)(hW:W c=1)(hZ: ∀r y,Z c r y=[.l n d (L y)])(hY: ∀r y,(Y c r y).er E=.ms r 0 (L y).length)(hE: ∀y,E c y=.sl false ((L y).map (E d)))(hd: ∀z,(E d z).dI=true)
  (hi: ∀x y,E c x=E c y->x=y):BD E W K Y Z c where
 hk:=by rw[hK];decide
 hz:=λr y=>by rw[hZ,hK];rfl
 hw:=λr y=>by rw[hY,hW];rfl
 hs:=λ_ y x hx=>by
  rw[hE]at hx;simp[AV.cells]at hx;subst hx;rfl
 hf:=λr y s G w hs hz=>by
  have h0:=hz 0 (.l n d (L y)) (by rw[hZ];rfl);obtain⟨G',a1,a2,a3,_⟩:=kz hs (b9:=0) (len:=0) h0 (xC _);rw[hK];refine⟨G',a1,a2,λj x x' v h1 h2 hv=>?_⟩;rw[hY]at h1;rw[hE]at h2;cases j with
  |succ j=>simp[AV.cells]at h1
  |zero=>
   simp[AV.cells]at h1 h2;subst h1;subst h2;have:=a3 0 (L y).length v (by simp[Gk]) hv;simpa[Gk,tP]using this
 hi:=λ_=>hi
 hr:=λok π r r' y h=>by
  obtain⟨h1,h2⟩:=h 0 (by rw[hK];decide);refine⟨by rw[hY,hY];exact .ms h1 h2,λj b b' e1 e2=>?_⟩;rw[hZ]at e1 e2;cases j with
  |succ j=>simp at e1
  |zero=>
   simp at e1 e2;subst e1;subst e2;refine .cells (.r (eJ.2 λx hx=>?_));obtain⟨z,_,rfl⟩:=kl.1 hx;exact hd z
theorem Ub{d n p:Nat}(L:S c->List (S d))(a b:S c->List AV)(hp: ∀y,(a y).length=p)(hK:K c=1)(hW: ∀y,(a y).length+1+(b y).length=W c)(hZ: ∀r y,Z c r y=[.l n d (L y)])(hY: ∀r y,(Y c r y).er E=.agg (a y++ .ms r 0 (L y).length::b y))
  (hE: ∀y,E c y=.agg (a y++ .sl false ((L y).map (E d))::b y)) (hd: ∀z,(E d z).dI=true) (KJ: ∀y,fj (a y)=true/\fj (b y)=true) (jH: ∀y x,x∈a y++b y->x.dn=true) (hi: ∀x y,E c x=E c y->x=y):BD E W K Y Z c where
 hk:=by rw[hK];decide
 hz:=λr y=>by rw[hZ,hK];rfl
 hw:=λr y=>by rw[hY,<-hW y];simp[AV.cells];omega
 hs:=λ_ y x hx=>by
  rw[hE]at hx;simp only[AV.cells,lT,mZ]at hx;rcases hx with h|rfl|h
  ·exact jH y x (by simp[h])
  ·rfl
  ·exact jH y x (by simp[h])
 hf:=λr y s G w hs hz=>by
  have h0:=hz 0 (.l n d (L y)) (by rw[hZ];rfl);obtain⟨G',a1,a2,a3,_⟩:=kz hs (b9:=0) (len:=0) h0 (xC _);rw[hK];refine⟨G',a1,a2,λj x x' v h1 h2 hv=>?_⟩;rw[hY]at h1;rw[hE]at h2;simp only[AV.cells]at h1 h2;by_cases hj:j<(a y).length
  ·rw[nD hj]at h1 h2;rw[h1]at h2;cases h2;exact hv.mono a2.le
  ·rw[qb (by omega)]at h1 h2;cases hq:j-(a y).length with
   |zero=>
    rw[hq]at h1 h2;simp at h1 h2;subst h1;subst h2;have:=a3 0 (L y).length v (by simp[Gk]) hv;simpa[Gk,tP]using this
   |succ k=>
    rw[hq]at h1 h2;simp at h1 h2;rw[h1]at h2;cases h2;exact hv.mono a2.le
 hi:=λ_=>hi
 hr:=λok π r r' y h=>by
  obtain⟨h1,h2⟩:=h 0 (by rw[hK];decide);refine⟨by rw[hY,hY];exact .a (.p (.r (KJ y).1) (.k (.ms h1 h2) (.r (KJ y).2))),λj b b' e1 e2=>?_⟩;rw[hZ]at e1 e2;cases j with
  |succ j=>simp at e1
  |zero=>
   simp at e1 e2;subst e1;subst e2;refine .cells (.r (eJ.2 λx hx=>?_));obtain⟨z,_,rfl⟩:=kl.1 hx;exact hd z
theorem Uc{d n n2:Nat}(L:S c->List (S d))(T:Nat->S c->TV S)(a b:S c->List AV)(hK:K c=2)(hW:W c=1)(hZ: ∀r y,Z c r y=[.o n [T r y],.l n2 d (L y)])(hY: ∀r y,(Y c r y).er E=.mp r 0 0)(hT: ∀r y,(T r y).er E=.agg (a y++ .ms (r+1) 0 (L y).length::b y))
  (hE: ∀y,E c y=.ip (a y++ .sl false ((L y).map (E d))::b y)) (hd: ∀z,(E d z).dI=true) (KJ: ∀y,fj (a y)=true/\fj (b y)=true) (hi: ∀x y,E c x=E c y->x=y):BD E W K Y Z c where
 hk:=by rw[hK];decide
 hz:=λr y=>by rw[hZ,hK];rfl
 hw:=λr y=>by rw[hY,hW];rfl
 hs:=λ_ y x hx=>by
  rw[hE]at hx;simp[AV.cells]at hx;subst hx;rfl
 hf:=λr y s G w hs hz=>by
  have h0:=hz 0 (.o n [T r y]) (by rw[hZ];rfl);have h1:=hz 1 (.l n2 d (L y)) (by rw[hZ];rfl);obtain⟨G1,a1,a2,a3,_⟩:=kz hs (b9:=0) (len:=0) h1 (xC _);simp only[DO,Gk,eB,hT,MC]at h0;have g0:bJ (eN s.heap (r+1)) r=some (.cells n [.agg (a y++ .ms (r+1) 0 (L y).length::b y)]):=by
   rw[fU,dY (by omega)];exact h0
  have T9:=a1.swap (es':=[.agg (a y++ .sl false ((L y).map (E d))::b y)]) g0 (λe=>by cases e) λrg o ho hw=>by
   rcases hs.heap r _ h0 with⟨r',o',e1,e2,e3⟩|⟨e1,sz,_,e2⟩
   ·have:=a2.le.own _ _ e1;rw[ho]at this;cases this;rw[hw]at e2;cases e2;cases e3 with
    |cells _ _ cs e eG eE h0 ja jH fB hV=>
     refine .cells _ _ cs e eG eE h0 (λx hx=>?_) (λx hx=>?_) (by simpa using fB) λk x hx=>?_
     ·simp only[O5]at hx;subst hx;have:=ja _ (O5.2 rfl);simpa[AV.cells]using this
     ·simp only[dB,F6,V1,xD,AV.cells,lT,mZ]at hx jH;rcases hx with h|rfl|h
      ·exact jH x (.inl h)
      ·rfl
      ·exact jH x (.inr (.inr h))
     ·simp only[dB,F6,V1,xD,AV.cells]at hx hV;by_cases hj:k<(a y).length
      ·rw[nD hj]at hx;obtain⟨u,p1,p2⟩:=hV k x (by rw[nD hj];exact hx);exact⟨u,p1,p2.mono a2.le⟩
      ·rw[qb (by omega)]at hx;cases hq:k-(a y).length with
       |zero=>
        rw[hq]at hx;simp at hx;subst hx;obtain⟨u,p1,p2⟩:=hV k (.ms (r+1) 0 (L y).length) (by rw[qb (by omega),hq];rfl);have:=a3 0 (L y).length u (by simp[Gk]) p2;exact⟨u,p1,by simpa[Gk,tP]using this⟩
       |succ j=>
        rw[hq]at hx;obtain⟨u,p1,p2⟩:=hV k x (by rw[qb (by omega),hq];simpa using hx);exact⟨u,p1,p2.mono a2.le⟩
   ·exfalso;have:=fC (λb=>match b with|gU.cells _ l=>l.length|_=>0) e2;simp at this
  have x2:=a2.swap (es':=[.agg (a y++ .sl false ((L y).map (E d))::b y)]) g0;obtain⟨G2,b1,b2,_,b4⟩:=kz T9 (b9:=0) (len:=0) (id:=r) (by rw[ff,dP rfl]) (xC _);have ed:eN (eF (eN s.heap (r+1)) r (.cells n [.agg (a y++ .sl false ((L y).map (E d))::b y)])) r=eN (eN s.heap (r+1)) r:=by
   have: ∀{h:List (Nat×gU)}{i:Nat}{x:gU},(∃b,bJ h i=some b)->eN (eF h i x) i=eN h i:=by
    intro h i x
    induction h with
    |nil=>rintro⟨b,hb⟩;simp[di]at hb
    |cons p q ih=>
     rintro⟨b,hb⟩;obtain⟨k,z⟩:=p;simp only[cZ]at hb;simp only[ub];split
     ·rename_i e;subst e;simp[eN]
     ·rename_i e;rw[dY e]at hb;simp only[eN,dY e,ih ⟨b,hb⟩]
   exact this ⟨_,g0⟩
  rw[hK];have fin:G9 r 2 s.heap=eN (eN s.heap (r+1)) r:=rfl;rw[fin];rw[ed]at b1 b2;refine⟨G2,b1,x2.trans hs b2,λj x x' v h1 h2 hv=>?_⟩;rw[hY]at h1;rw[hE]at h2;cases j with
  |succ j=>simp[AV.cells]at h1
  |zero=>
   simp[AV.cells]at h1 h2;subst h1;subst h2;exact b4 _ v rfl (hv.mono x2.le)
 hi:=λ_=>hi
 hr:=λok π r r' y h=>by
  obtain⟨h1,h2⟩:=h 0 (by rw[hK];decide);obtain⟨h3,h4⟩:=h 1 (by rw[hK];decide);refine⟨by rw[hY,hY];exact .mp h1 h2,λj b b' e1 e2=>?_⟩;rw[hZ]at e1 e2;cases j with
  |zero=>
   simp at e1 e2;subst e1;subst e2;simp only[Gk,eB,hT,MC];exact .cells (.k (.a (.p (.r (KJ y).1) (.k (.ms h3 h4) (.r (KJ y).2)))) .z)
  |succ j=>
   cases j with
   |zero=>
    simp at e1 e2;subst e1;subst e2;refine .cells (.r (eJ.2 λx hx=>?_));obtain⟨z,_,rfl⟩:=kl.1 hx;exact hd z
   |succ j=>simp at e1
end Go.Am
end
