/- The logic AM, G: families of blocks: an element opened, shut, put in; a family that becomes immutable. -/
import Derived.Test.YtgpciecmgoppiaaGreatAmR
set_option linter.all false
namespace Go.Am
open Go.RowKit
structure xd (π:Nat->Nat) (S2 s:St):Prop where
 heap: ∀id b,bn S2.heap id=some b->(∃b',bn s.heap (π id)=some b'/\(b=b'\/AD (fU s.bN S2.heap) π b b'))\/(s.bN<=π id/\ ∃cq,0<cq/\b=.cells cq [])
 low: ∀id,id<s.bN->π id=id
 inj: ∀id fq b b',bn S2.heap id=some b->bn S2.heap fq=some b'->π id=π fq->id=fq
 lt: ∀id b,bn S2.heap id=some b->id<S2.bN
 cb:s.bN<=S2.bN
 gq: ∀id,bn s.heap id=some .gq->bn S2.heap id=some .gq
section
variable {π:Nat->Nat} {S2 s s0:St} {G G0:bS} {w w0:World}
theorem xd.mk0(h1: ∀id b,bn S2.heap id=some b-> ∃b',bn s.heap (π id)=some b'/\(b=b'\/AD (fU s.bN S2.heap) π b b'))(h2: ∀id,id<s.bN->π id=id)(h3: ∀id fq b b',bn S2.heap id=some b->bn S2.heap fq=some b'->π id=π fq->id=fq)
 (h4: ∀id b,bn S2.heap id=some b->id<S2.bN) (h5:s.bN<=S2.bN) (h6: ∀id,bn s.heap id=some .gq->bn S2.heap id=some .gq):xd π S2 s:=⟨λid b h=>.inl (h1 id b h),h2,h3,h4,h5,h6⟩
theorem xd.le(h:xd π S2 s)(hs:eG G s w):ss G (fX s.bN π S2.heap G):=⟨λ_ _ _ h=>h,λid r ho=>by
 have:id<s.bN:=by
  by_cases hq:id<s.bN
  ·exact hq
  ·rw[hs.cj id (by omega)]at ho;cases ho
 simp only[fX,oB this,Ak,h.low id this];exact ho⟩
theorem xd.iB(h:xd π S2 s)(hs:eG G s w):eG (fX s.bN π S2.heap G) S2 w:=by
 refine⟨hs.lW,λid b hg=>?_,λid fq b b' r r' h1 h2 o1 o2 fG=>?_,λid b r o hg ho=>?_,λid nD=>?_,h.lt⟩
 ·rw[xc hg];rcases h.heap id b hg with⟨b',pW,hc⟩|⟨hn,e⟩
  case inr=>exact .inr ⟨hs.cj _ hn,e⟩
  rcases hs.heap _ _ pW with⟨r,o,e1,e2,e3⟩|⟨e1,cq,h0,e2⟩
  ·refine .inl ⟨r,o,e1,e2,?_⟩;rcases hc with rfl|hc
   ·exact e3.mono (h.le hs)
   ·exact hc.holds Bh e3
  ·refine .inr ⟨e1,cq,h0,?_⟩;rcases hc with rfl|hc
   ·exact e2
   ·subst e2;exact hc.nil
 ·rw[xc h1]at o1;rw[xc h2]at o2;rcases h.heap id b h1 with⟨c,hc,_⟩|⟨hn,_⟩
  case inr=>rw[hs.cj _ hn]at o1;cases o1
  rcases h.heap fq b' h2 with⟨c',TN,_⟩|⟨hn,_⟩
  case inr=>rw[hs.cj _ hn]at o2;cases o2
  exact hs.apart _ _ c c' r r' hc TN o1 o2 λe=>fG (h.inj id fq b b' h1 h2 e)
 ·rw[xc hg]at ho;rcases h.heap id b hg with⟨c,hc,_⟩|⟨hn,_⟩
  case inr=>rw[hs.cj _ hn]at ho;cases ho
  exact hs.clear _ c r o hc ho
 ·have hb:=h.cb;have:fU s.bN S2.heap id=false:=by
   cases hq:fU s.bN S2.heap id with
   |false=>rfl
   |true=>
    simp only[fU,vm,tv]at hq;rcases hq with hq|hq
    ·omega
    ·obtain⟨b,hb⟩:=iG.1 hq;have:=h.lt id b hb;omega
  simp[fX,this]
theorem xd.ext(h:xd π S2 s)(h0:eG G0 s0 w0)(hx:Ext G0 s0 w0 G s w)(hs:eG G s w)(hb:s0.bN<=s.bN):Ext G0 s0 w0 (fX s.bN π S2.heap G) S2 w:=by
 have lo: ∀id,id<s.bN->(fX s.bN π S2.heap G).own id=G.own id:=λid hl=>by simp only[fX,oB hl,Ak,h.low id hl]
 refine⟨hx.le.trans (h.le hs),hx.os,hx.tape,hx.output,hx.size,hx.keep,hx.jD,λid r ho=>?_,λid b hg=>?_,AW hb h.cb,λid hd=>h.gq id (hx.gq id hd),λid hl ho=>?_,hx.drawn⟩
 ·by_cases hl:id<s.bN
  ·rw[lo id hl]at ho;exact hx.iY id r ho
  ·have F9:fU s.bN S2.heap id=true:=by
    cases hq:fU s.bN S2.heap id with
    |true=>rfl
    |false=>simp[fX,hq]at ho
   have hh:has S2.heap id=true:=by
    simp only[fU,vm,tv]at F9
    grind
   obtain⟨b,hg⟩:=iG.1 hh;rw[xc hg]at ho;rcases h.heap id b hg with⟨c,hc,_⟩|⟨hn,_⟩
   case inr=>rw[hs.cj _ hn]at ho;cases ho
   rcases hx.iY _ r ho with q|q
   ·rcases hx.ids _ c hc with⟨c0,q0⟩|q0
    ·exact .inr (.inr ⟨_,c0,r,q0,q,rfl⟩)
    ·rw[h0.cj _ q0]at q;cases q
   grind
 ·by_cases hl:id<s.bN
  ·rcases h.heap id b hg with⟨c,hc,_⟩|⟨hn,_⟩
   case inr=>rw[h.low id hl]at hn;omega
   rw[h.low id hl]at hc;exact hx.ids id c hc
  grind
 ·rw[lo id (by omega)];exact hx.stay id hl ho
theorem EM{N:Nat}{ρ:Option Nat}{bf:Env}(h:xd π S2 s):G7 N ρ s.bN bf S2 bf s:=λhb h0 hx hn=>
 ⟨_,⟨h.iB hn.iB,hn.bf.mono (h.le hn.iB),hn.size,hn.mr.ext (h.ext hn.iB (.refl _ _ _) hn.iB (fw _)),hn.known.le (h.le hn.iB)⟩,h.ext h0 hx hn.iB hb⟩
end
section
variable {B:iU}
def toTB{S:Nat->Type}:ZB S->TB S
 |.o n l=>.cu n l
 |.l n c x=>.lz n c x
theorem toTB_er(z:ZB B.S):fT B (toTB z)=Nc (Ga B.E z):=by cases z<;>rfl
theorem toTB_fr(z:ZB B.S):gi (toTB z)=false:=by cases z<;>rfl
def qJ{S:Nat->Type}:Nat->List (ZB S)->List (Nat×TB S)
 |_,[]=>[]
 |i,z::r=>(i,toTB z)::qJ (i+1) r
theorem BB{l:List (ZB B.S)}{i id:Nat}:bn (qJ i l) id=if i<=id then(l[id-i]?).map toTB else none:=by
 induction l generalizing i with
 |nil=>simp[qJ,df]
 |cons z r ih=>
  simp only[qJ,cG]
  grind
theorem uy{h:List (Nat×TB B.S)}{id:Nat}{b:TB B.S}: ∀{ks:List Nat},bn (ln ks h) id=some b->jH id ks=true
 | [],hg=>by simp[ln,df]at hg
 |k::r,hg=>by
  unfold ln at hg;have hr:jH id r=true->jH id (k::r)=true:=λh=>by
   unfold jH at h |-
   grind
  split at hg
  ·simp only[cG]at hg;split at hg
   ·rename_i e;subst e;exact I9 (by simp)
   ·exact hr (uy hg)
  ·exact hr (uy hg)
theorem zp{c w:Nat}{b:List (B.S c)}: ∀{a:List (B.S c)}{i:Nat},iS B c w i (a++b)=iS B c w i a++iS B c w (i+a.length) b
 | [],i=>rfl
 |y::r,i=>by
  by_cases hi:i<cO
  ·rw[Al,lF hi,lF hi,zp (a:=r),Al,vl,show i+1+r.length=i+(r.length+1)from by omega]
  ·have e: ∀(l:List (B.S c))j,i<=j->iS B c w j l=[]:=λl j hj=>by
    cases l with
    |nil=>rfl
    |cons z q=>simp only[iS,QZ (show¬j<cO by omega),dv]
   grind
theorem zq{c w:Nat}{b:List (B.S c)}: ∀{a:List (B.S c)}{i:Nat},gW B c w i (a++b)=gW B c w i a++gW B c w (i+a.length) b
 | [],i=>rfl
 |y::r,i=>by
  by_cases hi:i<cO
  ·rw[Al,mV hi,mV hi,zq (a:=r),LZ,vl,show i+1+r.length=i+(r.length+1)from by omega]
  ·have e: ∀(l:List (B.S c))j,i<=j->gW B c w j l=[]:=λl j hj=>by
    cases l with
    |nil=>rfl
    |cons z q=>simp only[gW,QZ (show¬j<cO by omega),dv]
   grind
theorem pz{c w i id:Nat}{l:List (B.S c)}{x:gM}(h:bn (gW B c w i l) id=some x):w+1+B.K c*i<=id/\id<w+1+B.K c*(i+l.length):=by
 obtain⟨j,y,h1,h2,h3,h4⟩:=uf h;obtain⟨g1,g2,_⟩:=ue h4;rw[(B.hF c).hz]at g2;have hj:j-i<l.length:=(lf.1 h3).1;have e1:B.K c*i<=B.K c*j:=zD1 _ h1;have e2:B.K c*(j+1)<=B.K c*(i+l.length):=zD1 _ (by omega)
 grind
theorem ji{c r id:Nat}{y:B.S c}{x:gM}(h:bn (jT B r (B.Z c r y)) id=some x):r<=id/\id<r+B.K c:=by
 obtain⟨g1,g2,_⟩:=ue h;rw[(B.hF c).hz]at g2
 grind
section
variable {m w n c:Nat} {cl:Bool} {pre post:List (B.S c)} {y:B.S c} {ids:List Nat} {s:dH B.S}
def Hw(B:iU)(m w n c:Nat)(cl:Bool)(pre:List (B.S c))(y:B.S c)(post:List (B.S c))(ids:List Nat)(s:dH B.S):dH B.S:=
 ⟨qJ s.bN (B.Z c s.bN y)++(m,.fm n c w cl pre [B.Y c s.bN y] post)::(w,.fr c cl pre 1 post)::ln ids s.heap,s.bN+B.K c⟩
def Zx(B:iU)(m w:Nat)(ids:List Nat)(S2 s:dH B.S):Bool:=
 pP s.heap&&pP S2.heap&&Bs s.bN s.heap&&(s.heap.all λp=>Nat.blt p.1 s.bN)&&!(jH m ids)&&!(jH w ids)&&ub (kS B s.heap) (kS B S2.heap)
theorem aaT{A M Z:List (Nat×gM)}{id:Nat}{x:gM}(hA: ∀z z',bn A id=some z->bn M id=some z'->False)(hZ: ∀z z',bn Z id=some z->bn M id=some z'->False):
  bn (A++(M++Z)) id=some x↔(bn (A++Z) id=some x\/bn M id=some x):=by
 grind [cX]
theorem uz(hc:pre.length<cO){id:Nat}{x:gM}:bn (eP B w (.fr c cl pre 0 (y::post))) id=some x↔
  (bn (eP B w (.fr c cl pre 1 post)) id=some x\/bn (jT B (w+1+B.K c*pre.length) (B.Z c (w+1+B.K c*pre.length) y)) id=some x):=by
 simp only[eP,F0];rw[mV hc];refine aaT (λz z' h h'=>?_) λz z' h h'=>?_
 ·have h2:=(ji h').1;cases cl with
  |true=>simp[df]at h
  |false=>have h1:=(pz h).2;grind
 ·have h2:=(ji h').2;have h1:=(pz h).1
  grind
theorem BC{bm bw:TB B.S}(hm:bn s.heap m=some bm)(hme:fT B bm=fT B (.fm n c w cl pre [] (y::post)))(hmf:gi bm=false)(hw:bn s.heap w=some bw)(hwf:gi bw=true)(hwe:eP B w bw=eP B w (.fr c cl pre 0 (y::post)))(hc:pre.length<cO)
  (hC:Zx B m w ids (Hw B m w n c cl pre y post ids s) s=true):xd (λid=>if id<s.bN then id else w+1+B.K c*pre.length+(id-s.bN)) (db B (Hw B m w n c cl pre y post ids s)) (db B s):=by
 simp only[Zx,eU,sr]at hC;obtain⟨⟨⟨⟨⟨⟨w1,w2⟩,w3⟩,w4⟩,d1⟩,d2⟩,d3⟩:=hC;have low: ∀{id b},bn s.heap id=some b->id<s.bN:=λhg=>by have:=dR w4 hg;simp_all
 have Rk: ∀{k b id x},bn s.heap k=some b->bn (eP B k b) id=some x->id<s.bN:=λ{k b id x}hg hx=>by
  obtain⟨f1,f2⟩:=fc hx;have:=dR w3 hg;simp only[f1,pV,Ie]at this;have:=vd this;obtain⟨o1,o2⟩:=fB f2;omega
 have abF:(db B s).bN=s.bN:=rfl;have hmw:m≠w:=λe=>by grind
 have hwb:fT B bw=.cells 1 []:=by
  obtain⟨_,_,_,_,_,rfl⟩:=l6 hwf;rfl
 have key: ∀{id b},bn (Hw B m w n c cl pre y post ids s).heap id=some b->(s.bN<=id/\ ∃z,(B.Z c s.bN y)[id-s.bN]? =some z/\b=toTB z)\/(id=m/\b=.fm n c w cl pre [B.Y c s.bN y] post)\/(id=w/\b=.fr c cl pre 1 post)\/(id≠m/\id≠w/\bn s.heap id=some b):=λ{id b}hg=>by
  simp only[Hw]at hg;rw[cX,BB]at hg;by_cases eR:s.bN<=id
  ·rw[ez eR]at hg;cases hz:(B.Z c s.bN y)[id-s.bN]? with
   |some z=>grind
   |none=>
    exfalso;rw[hz]at hg;simp only[RY,cG]at hg;have:=low hm;have:=low hw;rw[fN (by omega),fN (by omega)]at hg;have:=low (jQ hg);omega
  ·rw[fN eR]at hg
   grind [cG,jQ]
 have row: ∀{k b id x},bn (Hw B m w n c cl pre y post ids s).heap k=some b->bn (eP B k b) id=some x-> ∃b',bn s.heap k=some b'/\bn (eP B k b') id=some x/\(k=w->bn (eP B w (.fr c cl pre 1 post)) id=some x):=λ{k b id x}hg hx=>by
  obtain⟨f1,f2⟩:=fc hx;rcases key hg with⟨_,z,_,rfl⟩|⟨rfl,rfl⟩|⟨rfl,rfl⟩|⟨h1,h2,h3⟩
  ·grind [toTB_fr]
  ·cases f1
  all_goals grind [uz]
 have ok: ∀j,j<B.K c->fU (db B s).bN (db B (Hw B m w n c cl pre y post ids s)).heap (s.bN+j)=true:=λj hj=>by
  obtain⟨z,hz⟩: ∃z,(B.Z c s.bN y)[j]? =some z:=⟨_,dF (by rw[(B.hF c).hz];exact hj)⟩;refine qx (b:=fT B (toTB z)) (dl (b:=toTB z) ?_);simp only[Hw];simp_all[cX,BB]
 have J8:=(B.hF c).hr (fU (db B s).bN (db B (Hw B m w n c cl pre y post ids s)).heap) (λid=>if id<s.bN then id else w+1+B.K c*pre.length+(id-s.bN)) s.bN (w+1+B.K c*pre.length) y λj hj=>⟨ok j hj,by
  grind⟩
 have same: ∀{i:Nat}{l:List (B.S c)},qw (fU (db B s).bN (db B (Hw B m w n c cl pre y post ids s)).heap) (λid=>if id<s.bN then id else w+1+B.K c*pre.length+(id-s.bN)) (iS B c w i l) (iS B c w i l):=λ{i l}=>rK λid x hx=>by
  have ga:=pu hx;obtain⟨o1,o2⟩:=fB ga;have:=dR w3 hw;simp only[hwf,pV,Ie]at this;have:=vd this;exact⟨oB (by grind),by grind⟩
 refine .mk0 ?_ (λid hl=>ez hl) ?_ ?_ (by show s.bN<=s.bN+B.K c;omega) ?_
 ·intro id b hb;rcases ie w2 hb with⟨b0,hg,rfl⟩|⟨_,k,b0,hg,hr⟩
  ·rcases key hg with⟨eR,z,hz,rfl⟩|⟨rfl,rfl⟩|⟨rfl,rfl⟩|⟨h1,h2,h3⟩
   ·have hl:id-s.bN<B.K c:=by rw[<-(B.hF c).hz s.bN y];grind
    have KQ:(B.Z c (w+1+B.K c*pre.length) y)[id-s.bN]? =some ((B.Z c (w+1+B.K c*pre.length) y)[id-s.bN]'(by rw[(B.hF c).hz];exact hl)):=dF _;refine⟨_,?_,.inr (by rw[toTB_er];exact J8.2 _ _ _ hz KQ)⟩;rw[fN (by omega)];refine js w1 hw ?_;rw[hwe];refine(uz hc).2 (.inr ?_);rw[lE,ez (by omega),show w+1+B.K c*pre.length+(id-s.bN)-(w+1+B.K c*pre.length)=id-s.bN from by omega,KQ];rfl
   ·refine⟨fT B (.fm n c w cl pre [] (y::post)),?_,.inr ?_⟩
    ·simp_all[dl]
    ·simp only[fT,dY,LY,Wo,F0,xm];rw[lF hc];refine .cells (.p ?_ (.k J8.1 same));cases cl with
     |true=>exact .r (lG c pre)
     |false=>exact same
   ·refine⟨fT B (.fr c cl pre 0 (y::post)),?_,.inl rfl⟩;rw[ez (low hw)];exact(dl hw).trans (by rw[hwb];rfl)
   simp_all[dl]
  ·obtain⟨b',g1,g2,_⟩:=row hg hr;refine⟨_,?_,.inl rfl⟩;rw[ez (Rk g1 g2)];exact js w1 g1 g2
 ·intro id fq b b' hb pW e;have nm: ∀{id b},bn (db B (Hw B m w n c cl pre y post ids s)).heap id=some b->id<s.bN-> ∀j,j<B.K c->id≠w+1+B.K c*pre.length+j:=λ{id b}hb hl j hj e=>by
   have hz:=rJ (r:=w+1+B.K c*pre.length) (y:=y) hj;obtain⟨z,hz⟩:=hz;have J8:=(uz (cl:=cl) (post:=post) hc).2 (.inr hz);have ga:=(fc J8).2;rcases ie w2 hb with⟨b0,hg,rfl⟩|⟨_,k,b0,hg,hr⟩
   ·grind [iO]
   ·obtain⟨b1,g1,g2,g3⟩:=row hg hr;obtain⟨f1,f2⟩:=fc g2;have hkw:=mA w1 g1 hw f1 hwf f2 (by grind);have:=g3 hkw;simp only[eP]at this;rw[cX]at this;split at this
    ·rename_i z hq;cases cl with
     |true=>simp[df]at hq
     |false=>have h4:=(pz hq).2;grind
    ·have h4:=(pz this).1
     grind
  have hi: ∀{id b},bn (db B (Hw B m w n c cl pre y post ids s)).heap id=some b-> ¬id<s.bN->id-s.bN<B.K c:=λ{id b}hb hl=>by
   rcases ie w2 hb with⟨b0,hg,rfl⟩|⟨_,k,b0,hg,hr⟩
   ·rcases key hg with⟨_,z,hz,_⟩|⟨rfl,_⟩|⟨rfl,_⟩|⟨_,_,h3⟩
    ·rw[<-(B.hF c).hz s.bN y];grind
    all_goals grind
   grind
  grind
 ·intro id b hb;show id<s.bN+B.K c;rcases ie w2 hb with⟨b0,hg,rfl⟩|⟨_,k,b0,hg,hr⟩
  ·rcases key hg with⟨_,z,hz,_⟩|⟨rfl,_⟩|⟨rfl,_⟩|⟨_,_,h3⟩
   ·have:id-s.bN<B.K c:=by rw[<-(B.hF c).hz s.bN y];grind
    omega
   all_goals grind
  grind
 ·intro id hd;rcases ie w1 hd with⟨b,hg,hb⟩|⟨hn,k,b,hg,hr⟩
  ·have:=ly d3 id (by grind [gv]);simp only[db];rw[cX,this]
  grind [oI]
def LW(B:iU)(m n c:Nat)(x:List (B.S c))(ids:List Nat)(s:dH B.S):dH B.S:=
 ⟨(m,.fm n c s.bN false x [] [])::(s.bN,.fr c false x 0 [])::ln ids s.heap,s.bN+vF+1⟩
def shC(B:iU)(m w r k:Nat)(ids:List Nat)(S2 s:dH B.S):Bool:=
 pP s.heap&&pP S2.heap&&Bs s.bN s.heap&&(s.heap.all λp=>Nat.blt p.1 s.bN)&&!(jH m ids)&&!(jH w ids)&&(ids.all λi=>!(Nat.ble r i&&Nat.blt i (r+k)))&&ub (kS B s.heap) (kS B S2.heap)
theorem La{r:Nat}{x:List (B.S c)}(hx:x=pre++y::post)(hm:bn s.heap m=some (.fm n c w false pre [B.Y c r y] post))(hw:bn s.heap w=some (.fr c false pre 1 post))(hz: ∀p∈qJ r (B.Z c r y),bn s.heap p.1=some p.2)(hc:pre.length<cO)
  (hC:shC B m w r (B.K c) ids (LW B m n c x ids s) s=true):
  xd (λid=>if id<s.bN then id else if s.bN+1+B.K c*pre.length<=id/\id<s.bN+1+B.K c*pre.length+B.K c then r+(id-(s.bN+1+B.K c*pre.length))else w+(id-s.bN)) (db B (LW B m n c x ids s)) (db B s):=by
 simp only[shC,eU,sr]at hC;obtain⟨⟨⟨⟨⟨⟨⟨w1,w2⟩,w3⟩,w4⟩,d1⟩,d2⟩,d4⟩,d3⟩:=hC;have low: ∀{id b},bn s.heap id=some b->id<s.bN:=λhg=>by have:=dR w4 hg;simpa[tv]using this
 have Rk: ∀{k b id x},bn s.heap k=some b->bn (eP B k b) id=some x->id<s.bN:=λ{k b id x}hg hx=>by
  obtain⟨f1,f2⟩:=fc hx;have:=dR w3 hg;simp only[f1,pV,Ie]at this;have:=vd this;obtain⟨o1,o2⟩:=fB f2;omega
 have hwl:=low hw;have R1:=low hm;have hwc:w+vF<=s.bN:=by
  have:=dR w3 hw;simp only[gi,pV,Ie]at this;exact vd this
 have hz: ∀j z,(B.Z c r y)[j]? =some z->bn s.heap (r+j)=some (toTB z):=λj z hj=>by
  refine hz (r+j,toTB z) ?_;have: ∀{l:List (ZB B.S)}{r j:Nat},l[j]? =some z->(r+j,toTB z)∈qJ r l:=by
   intro l
   induction l with
   |nil=>intro r j h;simp at h
   |cons a q ih=>
    intro r j h;cases j with
    |zero=>simp at h;subst h;simp[qJ]
    |succ j=>
     simp only[qJ,pU];right;have:=ih (r:=r+1) (j:=j) (by simpa using h);rw[show r+(j+1)=r+1+j from by omega];exact this
  exact this hj
 have Zy: ∀j,j<B.K c-> ∃z,(B.Z c r y)[j]? =some z:=λj hj=>⟨_,dF (by rw[(B.hF c).hz];exact hj)⟩;have key: ∀{id b},bn (LW B m n c x ids s).heap id=some b->(id=m/\b=.fm n c s.bN false x [] [])\/(id=s.bN/\b=.fr c false x 0 [])\/(id≠m/\id≠w/\id<s.bN/\bn s.heap id=some b/\ ∀j,j<B.K c->id≠r+j):=λ{id b}hg=>by
  simp only[LW,cG]at hg;split at hg
  ·rename_i e;cases hg;exact .inl ⟨e.symm,rfl⟩
  ·split at hg
   ·rename_i e;cases hg;exact .inr (.inl ⟨e.symm,rfl⟩)
   ·rename_i e1 e2;have ga:=uy hg;refine .inr (.inr ⟨λe=>e1 e.symm,λe=>(by rw[e,d2]at ga;cases ga),low (jQ hg),jQ hg,λj hj e=>?_⟩);unfold jH at ga;obtain⟨i,hi,hb⟩:=F5.1 ga;have:=qc.1 d4 i hi;have hb:=jU hb;subst hb;subst e;rw[Nat.ble_eq_true_of_le (by omega),KJ (by omega)]at this;cases this
 have hL:iS B c s.bN 0 x=iS B c s.bN 0 pre++(B.Y c (s.bN+1+B.K c*pre.length) y).er B.E::iS B c s.bN (pre.length+1) post:=by
  rw[hx,zp,J0,lF hc]
 have sM:eP B s.bN (.fr c false x 0 [])=gW B c s.bN 0 x:=by simp[eP,gW]
 have AJ: ∀{id b},bn (gW B c s.bN 0 x) id=some b↔(bn (eP B s.bN (.fr c false pre 1 post)) id=some b\/bn (jT B (s.bN+1+B.K c*pre.length) (B.Z c (s.bN+1+B.K c*pre.length) y)) id=some b):=λ{id b}=>by
  rw[<-uz (cl:=false) hc,hx,zq,J0];simp[eP]
 have row: ∀{k b id x0},bn (LW B m n c x ids s).heap k=some b->bn (eP B k b) id=some x0->(k=s.bN/\(bn (eP B s.bN (.fr c false pre 1 post)) id=some x0\/bn (jT B (s.bN+1+B.K c*pre.length) (B.Z c (s.bN+1+B.K c*pre.length) y)) id=some x0))\/(k≠w/\bn s.heap k=some b):=λ{k b id x0}hg hr=>by
  obtain⟨f1,f2⟩:=fc hr;rcases key hg with⟨rfl,rfl⟩|⟨rfl,rfl⟩|⟨_,h2,_,h3,_⟩
  ·cases f1
  ·rw[sM]at hr;exact .inl ⟨rfl,AJ.1 hr⟩
  ·exact .inr ⟨h2,h3⟩
 have side: ∀{v id b},bn (eP B v (.fr c false pre 1 post)) id=some b->v<id/\id<v+vF/\(id<v+1+B.K c*pre.length\/v+1+B.K c*pre.length+B.K c<=id):=λ{v id b}h=>by
  obtain⟨o1,o2⟩:=fB (fc h).2;refine⟨o1,o2,?_⟩;simp only[eP,dv]at h;rw[cX]at h;split at h
  ·rename_i z hq;have:=(pz hq).2;rw[J0]at this;exact .inl this
  ·have h4:=(pz h).1;rw[Nat.mul_add]at h4;right;omega
 have DT: ∀{id b},bn (eP B s.bN (.fr c false pre 1 post)) id=some b->(if id<s.bN then id else if s.bN+1+B.K c*pre.length<=id/\id<s.bN+1+B.K c*pre.length+B.K c then r+(id-(s.bN+1+B.K c*pre.length))else w+(id-s.bN))=w+(id-s.bN):=λ{id b}h=>by
  obtain⟨o1,o2,o3⟩:=side h;rw[fN (by omega),fN (by omega)]
 have Zz: ∀{id b},bn (gW B c s.bN 0 x) id=some b->fU (db B s).bN (db B (LW B m n c x ids s)).heap id=true:=λ{id b}h=>
  qx (js (w:=s.bN) (b:=.fr c false x 0 []) w2 (by simp only[LW,cG];rw[fN (by omega)];simp) (by rw[sM];exact h))
 have J8:=(B.hF c).hr (fU (db B s).bN (db B (LW B m n c x ids s)).heap) (λid=>if id<s.bN then id else if s.bN+1+B.K c*pre.length<=id/\id<s.bN+1+B.K c*pre.length+B.K c then r+(id-(s.bN+1+B.K c*pre.length))else w+(id-s.bN)) (s.bN+1+B.K c*pre.length) r y λj hj=>⟨by
  obtain⟨z,hz⟩:=rJ (r:=s.bN+1+B.K c*pre.length) (y:=y) hj;exact Zz (AJ.2 (.inr hz)),by
  rw[fN (by omega),ez (by omega)];omega⟩
 have mM: ∀{id b},bn (gW B c s.bN 0 pre) id=some b->bn (eP B s.bN (.fr c false pre 1 post)) id=some b:=λ{id b}h=>by
  simp only[eP,dv];rw[cX,h]
 have qt: ∀{id b},bn (gW B c s.bN (pre.length+1) post) id=some b-> ∃b',bn (eP B s.bN (.fr c false pre 1 post)) id=some b':=λ{id b}h=>by
  simp only[eP,dv];rw[cX];cases hq:bn (gW B c s.bN 0 pre) id with
  |some z=>exact⟨z,rfl⟩
  |none=>exact⟨b,h⟩
 have bP: ∀{id b},bn (db B (LW B m n c x ids s)).heap id=some b->(id<s.bN/\id≠w/\(∃b',bn (db B s).heap id=some b')/\(∀j,j<B.K c->id≠r+j)/\fV w id=true)\/(id=s.bN)\/(bn (eP B s.bN (.fr c false pre 1 post)) id=some b)\/(bn (jT B (s.bN+1+B.K c*pre.length) (B.Z c (s.bN+1+B.K c*pre.length) y)) id=some b):=λ{id b}hb=>by
  rcases ie w2 hb with⟨b0,hg,rfl⟩|⟨_,k,b0,hg,hr⟩
  ·rcases key hg with⟨rfl,_⟩|⟨h,_⟩|⟨h1,h2,h3,h4,h5⟩
   ·refine .inl ⟨R1,λe=>(by subst e;rw[hm]at hw;cases hw),⟨_,dl hm⟩,λj hj e=>?_,iO w1 hw hm rfl⟩;obtain⟨z,PD⟩:=Zy j hj;have:=hz j z PD;rw[<-e,hm]at this;cases z<;>cases this
   ·exact .inr (.inl h)
   ·exact .inl ⟨h3,h2,⟨_,dl h4⟩,h5,iO w1 hw h4 rfl⟩
  ·rcases row hg hr with⟨_,h|h⟩|⟨h1,h2⟩
   ·exact .inr (.inr (.inl h))
   ·exact .inr (.inr (.inr h))
   ·obtain⟨f1,f2⟩:=fc hr;refine .inl ⟨Rk h2 hr,λe=>?_,⟨_,js w1 h2 hr⟩,λj hj e=>?_,?_⟩
    ·subst e;rw[iO w1 h2 hw f1]at f2;cases f2
    ·obtain⟨z,PD⟩:=Zy j hj;have:=iO w1 h2 (hz j z PD) f1;rw[<-e,f2]at this;cases this
    ·cases ho:fV w id with
     |true=>rfl
     |false=>exact absurd (mA w1 hw h2 rfl f1 ho f2).symm h1
 refine .mk0 ?_ (λid hl=>ez hl) ?_ ?_ (by show s.bN<=s.bN+vF+1;omega) ?_
 ·intro id b hb;rcases ie w2 hb with⟨b0,hg,rfl⟩|⟨_,k,b0,hg,hr⟩
  ·rcases key hg with⟨rfl,rfl⟩|⟨rfl,rfl⟩|⟨h1,h2,h3,h4,h5⟩
   ·refine⟨fT B (.fm n c w false pre [B.Y c r y] post),?_,.inr ?_⟩
    ·rw[ez R1];exact dl hm
    ·simp only[fT,dY,LY,Wo,dv,xm,iS];rw[hL,wV];refine .cells (.p ?_ (.k J8.1 ?_))
     ·exact rK λid x0 h=>⟨Zz (AJ.2 (.inl (mM h))),DT (mM h)⟩
     ·exact rK λid x0 h=>by
       obtain⟨b',h'⟩:=qt h;exact⟨Zz (AJ.2 (.inl h')),DT h'⟩
   ·refine⟨fT B (.fr c false pre 1 post),?_,.inl rfl⟩;rw[fN (by omega),fN (by omega),RX,F0];exact dl hw
   ·refine⟨_,?_,.inl rfl⟩;rw[ez h3];exact dl h4
  ·rcases row hg hr with⟨_,h|h⟩|⟨h1,h2⟩
   ·obtain⟨x',q1,q2⟩:=ur (w':=w) (ok:=fU (db B s).bN (db B (LW B m n c x ids s)).heap) (π:=λid=>if id<s.bN then id else if s.bN+1+B.K c*pre.length<=id/\id<s.bN+1+B.K c*pre.length+B.K c then r+(id-(s.bN+1+B.K c*pre.length))else w+(id-s.bN)) (λid x0 h=>⟨Zz (AJ.2 (.inl h)),DT h⟩) id b h;exact⟨x',by rw[DT h];exact js w1 hw q1,.inr q2⟩
   ·obtain⟨g1,g2⟩:=ji h;rw[lE,ez g1]at h;obtain⟨z,LR,KQ⟩:=L2.1 h;obtain⟨z',PD⟩:=Zy (id-(s.bN+1+B.K c*pre.length)) (by omega);refine⟨_,?_,.inr (by rw[<-KQ];exact J8.2 _ _ _ LR PD)⟩;rw[fN (by omega),ez (by omega),<-toTB_er];exact dl (hz _ _ PD)
   ·exact⟨b,by rw[ez (Rk h2 hr)];exact js w1 h2 hr,.inl rfl⟩
 ·intro id fq b b' hb pW e;have ZA: ∀j,j<B.K c->r+j<s.bN/\r+j≠w/\fV w (r+j)=true:=λj hj=>by
   obtain⟨z,PD⟩:=Zy j hj;have:=hz j z PD;refine⟨low this,λe=>?_,iO w1 hw this rfl⟩;rw[e,hw]at this;cases z<;>cases this
  rcases bP hb with⟨a1,a2,_,a3,a4⟩|h|h|h<;>rcases bP pW with⟨c1,c2,_,c3,c4⟩|h'|h'|h'
  ·rw[ez a1,ez c1]at e;exact e
  ·rw[ez a1,h',fN (by omega),fN (by omega)]at e;omega
  ·rw[ez a1,DT h']at e;obtain⟨o1,o2,_⟩:=side h';rw[e,lT (by omega) (by omega)]at a4;cases a4
  ·obtain⟨g1,g2⟩:=ji h';rw[ez a1,fN (by omega),ez (by omega)]at e;exact absurd e (a3 _ (by omega))
  ·rw[ez c1,h,fN (by omega),fN (by omega)]at e;omega
  ·omega
  ·rw[DT h',h,fN (by omega),fN (by omega)]at e;obtain⟨o1,_⟩:=side h';omega
  ·obtain⟨g1,g2⟩:=ji h';rw[h,fN (by omega),fN (by omega),fN (by omega),ez (by omega)]at e;exact absurd e.symm (by rw[RX,F0];exact(ZA _ (by omega)).2.1)
  ·rw[ez c1,DT h]at e;obtain⟨o1,o2,_⟩:=side h;rw[<-e,lT (by omega) (by omega)]at c4;cases c4
  ·rw[DT h,h',fN (by omega),fN (by omega)]at e;obtain⟨o1,_⟩:=side h;omega
  ·rw[DT h,DT h']at e;obtain⟨o1,_⟩:=side h;obtain⟨o2,_⟩:=side h';omega
  ·obtain⟨g1,g2⟩:=ji h';rw[DT h,fN (by omega),ez (by omega)]at e;obtain⟨o1,o2,_⟩:=side h;have:=(ZA (fq-(s.bN+1+B.K c*pre.length)) (by omega)).2.2;rw[<-e,lT (by omega) (by omega)]at this;cases this
  ·obtain⟨g1,g2⟩:=ji h;rw[ez c1,fN (by omega),ez (by omega)]at e;exact absurd e.symm (c3 _ (by omega))
  ·obtain⟨g1,g2⟩:=ji h;rw[h',fN (by omega),ez (by omega),fN (by omega),fN (by omega)]at e;exact absurd e (by rw[RX,F0];exact(ZA _ (by omega)).2.1)
  ·obtain⟨g1,g2⟩:=ji h;rw[DT h',fN (by omega),ez (by omega)]at e;obtain⟨o1,o2,_⟩:=side h';have:=(ZA (id-(s.bN+1+B.K c*pre.length)) (by omega)).2.2;rw[e,lT (by omega) (by omega)]at this;cases this
  ·obtain⟨g1,g2⟩:=ji h;obtain⟨g3,g4⟩:=ji h';rw[fN (by omega),ez (by omega),fN (by omega),ez (by omega)]at e;omega
 ·intro id b hb;show id<s.bN+vF+1;rcases bP hb with⟨a1,_⟩|h|h|h
  ·omega
  ·omega
  ·have:=(side h).2.1;omega
  ·have:=(fB (pu (AJ.2 (.inr h)))).2;omega
 ·intro id hd;rcases ie w1 hd with⟨b,hg,hb⟩|⟨hn,k,b,hg,hr⟩
  ·have:=ly d3 id (by rw[gv,hg,iJ,<-hb]);simp only[db];rw[cX,this]
  ·exact(oI hr).elim
theorem uA{α:Type}{x:List α}{i:Int}{y:α}(h:ix x i=some y):x=x.take i.toNat++y::x.drop (i.toNat+1)/\(x.take i.toNat).length=i.toNat:=by
 obtain⟨_,hy⟩:=Qw h
 grind [List.take_append_drop,List.drop_eq_getElem_cons]
theorem N9{α:Type}{x:List α}{i:Int}{y z:α}(h:ix x i=some y):x.set i.toNat z=x.take i.toNat++z::x.drop (i.toNat+1):=by
 obtain⟨_,hy⟩:=Qw h;rw[List.set_eq_take_append_cons_drop,ez (lf.1 hy).1]
theorem EN{α:Type}{x:List α}{i:Int}{y:α}(h:ix x i=some y)(hc:i.toNat<cO):i.toNat=(x.take i.toNat).length/\i.toNat<=cO:=⟨(uA h).2.symm,Wr hc⟩
theorem XI{c n w i:Nat}{x:List (B.S c)}{y:B.S c}(h:x=x.take i++y::x.drop (i+1))(hl:(x.take i).length=i):fT B (.fm n c w false x [] [])=fT B (.fm n c w false (x.take i) [] (y::x.drop (i+1))):=by
 have:iS B c w 0 x=iS B c w 0 (x.take i)++iS B c w i (y::x.drop (i+1)):=by
  conv=>lhs;rw[h,zp,hl,J0]
 simp only[fT,dY,dv,LY,F0,xm,iS,wV,this,hl]
theorem XJ{c w i:Nat}{x:List (B.S c)}{y:B.S c}(h:x=x.take i++y::x.drop (i+1))(hl:(x.take i).length=i):eP B w (.fr c false x 0 [])=eP B w (.fr c false (x.take i) 0 (y::x.drop (i+1))):=by
 have:gW B c w 0 x=gW B c w 0 (x.take i)++gW B c w i (y::x.drop (i+1)):=by
  conv=>lhs;rw[h,zq,hl,J0]
 simp only[eP,dv,F0,gW,wV,this,hl]
end
theorem BD{α:Type}{x:List α}{i:Int}{y:α}(h:ix x i=some y)(hc:i.toNat<cO):(x.take i.toNat).length<cO:=by grind
theorem uB{α:Type}{x:List α}{i:Int}{y:α}(h:ix x i=some y):0<=i/\i<(x.length:Int):=by
 have h1:=aaB h;have h0:=(Qw h).1;omega
theorem SF{α:Type}{l:List α}{y:α}(h:ix l 0=some y):l=y::l.drop 1:=by
 have:=(Qw h).2;cases l with
 |nil=>simp at this
 |cons a r=>grind
section
variable {c n w:Nat} {cl:Bool} {pre post x l:List (B.S c)} {y:B.S c}
theorem XK(h:ix l 0=some y):fT B (.fm n c w cl pre [] l)=fT B (.fm n c w cl pre [] (y::l.drop 1)):=by rw[<-SF h]
theorem XL(h:ix l 0=some y):eP B w (.fr c cl pre 0 l)=eP B w (.fr c cl pre 0 (y::l.drop 1)):=by rw[<-SF h]
theorem clM:fT B (.fm n c w false x [] [])=fT B (.fm n c w true [] [] x):=by simp[fT,iS,dY]
theorem clW:eP B w (.fr c false x 0 [])=eP B w (.fr c true [] 0 x):=by simp[eP,gW]
theorem shM{v:TV B.S}(h:B.E c y=v.er B.E):fT B (.fm n c w true pre [v] post)=fT B (.fm n c w true (pre++[y]) [] post):=by simp[fT,dY,h]
theorem shW:eP B w (.fr c true pre 1 post)=eP B w (.fr c true (pre++[y]) 0 post):=by simp[eP]
theorem aaU{k:Nat}(h:post=[]/\k=pre.length):fT B (.fm n c w true pre [] post)=fT B (.ls n c pre k h.2):=by
 obtain⟨h,_⟩:=h;subst h;simp[fT,iS,dY]
end
theorem Jf{α:Type}{E:α->AV}(hE: ∀x y,E x=E y->x=y): ∀l m:List α,l.map E=m.map E->l=m
 | [],[],_=>rfl
 | [],_::_,h=>by cases h
 |_::_,[],h=>by cases h
 |a::x,b::y,h=>by
  simp only[Aj,List.cons.injEq]at h;rw[hE _ _ h.1,Jf hE x y h.2]
section
variable {P:Program} {N:Nat} {ρ:Option Nat} {Q:Exit->Env->St->Prop} {M:TM B.S}
theorem Hx{o:TO B.S}{k:List Fr}{bf:dB B.S}{S2 s:dH B.S}(ho:kD o=true)(h:G7 N ρ s.bN (eI B bf) (db B S2) (eI B bf) (db B s))(hk:kU B P N ρ Q ⟨o,k,bf,S2⟩):kU B P N ρ Q ⟨o,k,bf,s⟩:=by
 cases o<;>simp only[kD]at ho<;>first|(cases ho;done)|skip
 ·have hk:vE P N ρ Q ⟨.run _,k,eI B bf,db B S2⟩:=hk;exact qC (bG:=s.bN) (fw _) h hk
 ·have hk:vE P N ρ Q ⟨.out _,k,eI B bf,db B S2⟩:=hk;exact qC (bG:=s.bN) (fw _) h hk
theorem C1{π:Nat->Nat}{o:TO B.S}{k:List Fr}{bf:dB B.S}{S2 s:dH B.S}(ho:kD o=true)(h:xd π (db B S2) (db B s))(hk:kU B P N ρ Q ⟨o,k,bf,S2⟩):kU B P N ρ Q ⟨o,k,bf,s⟩:=Hx ho (EM h) hk
def EO{S:Nat->Type}(M:TM S)(s:dH S):TM S:=⟨M.o,M.k,M.bf,s⟩
theorem XM(fY m w n c:Nat)(ids:List Nat){x:List (B.S c)}{i:Int}{y:B.S c}(h:ix x i=some y)(hc:i.toNat<cO)
  (k:RT B P N ρ Q (EO (toReg B P N fY M).1 (Hw B m w n c false (x.take i.toNat) y (x.drop (i.toNat+1)) ids (toReg B P N fY M).1.s)))
  (hx:(kD (toReg B P N fY M).1.o,bn (toReg B P N fY M).1.s.heap m,bn (toReg B P N fY M).1.s.heap w,Zx B m w ids (Hw B m w n c false (x.take i.toNat) y (x.drop (i.toNat+1)) ids (toReg B P N fY M).1.s) (toReg B P N fY M).1.s,(toReg B P N fY M).2.map Prod.fst)=
   (true,some (.fm n c w false x [] []),some (.fr c false x 0 []),true,(toReg B P N fY M).2.map Prod.snd):=by kernel_rfl):RT B P N ρ Q M:=by
 simp only[Prod.mk.injEq]at hx;obtain⟨h1,h2,h3,h4,h5⟩:=hx;refine⟨kW (dW h5) ?_⟩;have k:=k.v;unfold EO at k;show kU B P N ρ Q (toReg B P N fY M).1;obtain⟨e1,e2⟩:=uA h;exact C1 h1 (BC h2 (XI e1 e2) rfl h3 rfl (XJ e1 e2) (by grind) h4) k
theorem tOh(fY m w n c:Nat)(ids:List Nat)(cl:Bool)(pre:List (B.S c))(y:B.S c)(post:List (B.S c))(hc:pre.length<cO)
  (k:RT B P N ρ Q (EO (toReg B P N fY M).1 (Hw B m w n c cl pre y post ids (toReg B P N fY M).1.s)))
  (hx:(kD (toReg B P N fY M).1.o,bn (toReg B P N fY M).1.s.heap m,bn (toReg B P N fY M).1.s.heap w,Zx B m w ids (Hw B m w n c cl pre y post ids (toReg B P N fY M).1.s) (toReg B P N fY M).1.s,(toReg B P N fY M).2.map Prod.fst)=
   (true,some (.fm n c w cl pre [] (y::post)),some (.fr c cl pre 0 (y::post)),true,(toReg B P N fY M).2.map Prod.snd):=by kernel_rfl):RT B P N ρ Q M:=by
 simp only[Prod.mk.injEq]at hx;obtain⟨h1,h2,h3,h4,h5⟩:=hx;refine⟨kW (dW h5) ?_⟩;have k:=k.v;unfold EO at k;show kU B P N ρ Q (toReg B P N fY M).1;exact C1 h1 (BC h2 rfl rfl h3 rfl rfl hc h4) k
def Oa{S:Nat->Type}(h:List (Nat×TB S)):List (Nat×TB S)->List (Option (TB S))
 | []=>[]
 |p::r=>bn h p.1::Oa h r
theorem C2{h:List (Nat×TB B.S)}: ∀{l:List (Nat×TB B.S)},Oa h l=l.map (λp=>some p.2)-> ∀p∈l,bn h p.1=some p.2
 | [],_,p,hp=>by simp at hp
 |a::r,e,p,hp=>by
  simp only[Oa,Aj,List.cons.injEq]at e;simp only[pU]at hp;rcases hp with rfl|hp
  ·exact e.1
  ·exact C2 e.2 p hp
theorem PS(fY m w n c r:Nat)(ids:List Nat)(pre:List (B.S c))(y:B.S c)(post x:List (B.S c))(hc:pre.length<cO)(he:x=pre++y::post)
  (k:RT B P N ρ Q (EO (toReg B P N fY M).1 (LW B m n c x ids (toReg B P N fY M).1.s)))
  (hx:(kD (toReg B P N fY M).1.o,bn (toReg B P N fY M).1.s.heap m,bn (toReg B P N fY M).1.s.heap w,Oa (toReg B P N fY M).1.s.heap (qJ r (B.Z c r y)),shC B m w r (B.K c) ids (LW B m n c x ids (toReg B P N fY M).1.s) (toReg B P N fY M).1.s,(toReg B P N fY M).2.map Prod.fst)=
   (true,some (.fm n c w false pre [B.Y c r y] post),some (.fr c false pre 1 post),(qJ r (B.Z c r y)).map (λp=>some p.2),true,(toReg B P N fY M).2.map Prod.snd):=by kernel_rfl):RT B P N ρ Q M:=by
 simp only[Prod.mk.injEq]at hx;obtain⟨h1,h2,h3,h4,h5,h6⟩:=hx;refine⟨kW (dW h6) ?_⟩;have k:=k.v;unfold EO at k;show kU B P N ρ Q (toReg B P N fY M).1;exact C1 h1 (La he h2 h3 (C2 h4) hc h5) k
end
theorem uC{id:Nat}: ∀{k:Nat}{h:List (Nat×gM)}{r:Nat},bn (G8 r k h) id=if r<=id/\id<r+k then none else bn h id
 |0,h,r=>by rw[fN (by omega)];rfl
 |k+1,h,r=>by
  simp only[G8];rw[uC (k:=k),fO];by_cases h1:r<=id/\id<r+k
  ·rw[ez h1,ez (by omega)]
  ·rw[fN h1];by_cases h2:r+k=id
   ·rw[ez h2,ez (by omega)]
   ·rw[fN h2,fN (by omega)]
theorem Ob{A R:List AV}{e e':AV}(hl:e'.cells.length=e.cells.length){k:Nat}{x':AV}(h:(de (A++e'::R))[k]? =some x'):
  (∃(j:Nat)(x:AV),e'.cells[j]? =some x'/\e.cells[j]? =some x/\(de (A++e::R))[k]? =some x)\/(de (A++e::R))[k]? =some x':=by
 rw[dx,jl]at h |-
 grind
section
variable {G G1:bS} {s s1:St} {w:World}
theorem eG.swap(h:eG G1 s1 w){m n:Nat}{es es':List AV}(hg:bn s1.heap m=some (.cells n es))(hn:es=[]->es'=[])(hh: ∀r o,G1.own m=some r->w.heap[r.block]? =some o->Holds G1 r (.cells n es') o):
  eG G1 ⟨dM s1.heap m (.cells n es'),s1.bN⟩ w:=by
 have gs: ∀{i b},bn (dM s1.heap m (.cells n es')) i=some b->(i=m/\b=.cells n es')\/(i≠m/\bn s1.heap i=some b):=λ{i b}hi=>by
  grind [eK]
 have P0: ∀{i b},bn (dM s1.heap m (.cells n es')) i=some b-> ∃b0,bn s1.heap i=some b0:=λ{i b}hi=>by
  grind
 refine⟨h.lW,λi b hi=>?_,λi i' b b' r r' h1 h2 o1 o2 fG=>?_,λi b r o hi ho=>?_,h.cj,λi b hi=>?_⟩
 ·rcases gs hi with⟨rfl,rfl⟩|⟨_,hb⟩
  ·rcases h.heap _ _ hg with⟨r,o,e1,e2,_⟩|⟨e1,sz,h0,e2⟩
   all_goals grind
  ·exact h.heap i b hb
 ·obtain⟨b1,g1⟩:=P0 h1;obtain⟨b2,g2⟩:=P0 h2;exact h.apart i i' b1 b2 r r' g1 g2 o1 o2 fG
 ·obtain⟨b1,g1⟩:=P0 hi;exact h.clear i b1 r o g1 ho
 ·obtain⟨b1,g1⟩:=P0 hi;exact h.lt i b1 g1
theorem Ext.swap(h:Ext G s w G1 s1 w){m n:Nat}{es es':List AV}(hg:bn s1.heap m=some (.cells n es)):Ext G s w G1 ⟨dM s1.heap m (.cells n es'),s1.bN⟩ w:=
 ⟨h.le,h.os,h.tape,h.output,h.size,h.keep,h.jD,h.iY,λid b hi=>by
  simp only at hi;rw[eK]at hi;split at hi
  ·rename_i e;subst e;exact h.ids _ _ hg
  ·exact h.ids id b hi,h.bN,λid hd=>by
  have:=h.gq id hd;rw[eK,fN (λe=>by grind)];exact this,h.stay,h.drawn⟩
end
theorem SG{c m n v:Nat}(hk:0<B.K c)(Lb:fV v m=true): ∀(post pre:List (B.S c))(s:St)(G:bS)(w:World),pre.length+post.length<=cO->eG G s w->
  bn s.heap m=some (.cells n (pre.map (B.E c)++iS B c v pre.length post))->(∀id x,bn (gW B c v pre.length post) id=some x->bn s.heap id=some x)->
  ∃G' s',eG G' s' w/\Ext G s w G' s' w/\bn s'.heap m=some (.cells n ((pre++post).map (B.E c)))/\(∀id b,id≠m->fV v id=true->bn s.heap id=some b->bn s'.heap id=some b)/\s'.bN=s.bN
 | [],pre,s,G,w,_,hs,hm,_=>⟨G,s,hs,.refl _ _ _,by simpa[iS]using hm,λ_ _ _ _ h=>h,rfl⟩
 |y::r,pre,s,G,w,hl,hs,hm,hr=>by
  simp only[vl]at hl;have hc:pre.length<cO:=by omega
  rw[lF hc]at hm;rw[mV hc]at hr;have hF:=B.hF c;have hz: ∀(j:Nat)(z:ZB B.S),(B.Z c (v+1+B.K c*pre.length) y)[j]? =some z->bn s.heap (v+1+B.K c*pre.length+j)=some (Nc (Ga B.E z)):=λj z hz=>by
   simp_all[cX,lE]
  obtain⟨G1,s1,x1,hv⟩:=hF.hf (v+1+B.K c*pre.length) y s G w hs hz;have nin: ∀{id},fV v id=true-> ¬(v+1+B.K c*pre.length<=id/\id<v+1+B.K c*pre.length+B.K c):=λ{id}ho hq=>by
   have hk4:=hF.hk;have:B.K c*pre.length<=4*4095:=Nat.mul_le_mul hk4 (by unfold cO at hc;omega);rw[lT (by omega) (by unfold vF;omega)]at ho;cases ho
  have Rl:bn (G8 (v+1+B.K c*pre.length) (B.K c) s.heap) m=some (.cells n (pre.map (B.E c)++(B.Y c (v+1+B.K c*pre.length) y).er B.E::iS B c v (pre.length+1) r)):=by
   simp_all[uC]
  have dK:(B.E c y).cells.length=((B.Y c (v+1+B.K c*pre.length) y).er B.E).cells.length:=by rw[B.hw,hF.hw]
  have Od:=s1.swap (es':=(pre++[y]).map (B.E c)++iS B c v (pre.length+1) r) Rl (λe=>by simp at e) λrg o ho hw=>by
   rcases hs.heap m _ hm with⟨r',o',e1,e2,e3⟩|⟨e1,sz,_,e2⟩
   ·have:=x1.le.own _ _ e1;rw[ho]at this;cases this;rw[hw]at e2;cases e2;cases e3 with
    |cells _ _ cs e eB eo h0 jR kI ga hV=>
     refine .cells _ _ cs e eB eo h0 (λx hx=>?_) (λx hx=>?_) (by grind) λk x hx=>?_
     ·grind
     ·simp only[F4,Aj,Ta,LZ,Al,xm]at hx;rw[dx,jl]at hx;simp only[oq]at hx;rcases hx with h|h|h
      ·grind [dx]
      ·exact hF.hs hk y x h
      grind [dx,jl]
     ·simp only[F4,Aj,Ta,LZ,Al,xm]at hx;rcases Ob dK hx with⟨j,x0,q1,q2,q3⟩|q
      ·grind
      ·obtain⟨u,p1,p2⟩:=hV k x q;exact⟨u,p1,p2.mono x1.le⟩
   simp_all
  have x2:=x1.swap (es':=(pre++[y]).map (B.E c)++iS B c v (pre.length+1) r) Rl;have fG: ∀{id x},bn (gW B c v (pre.length+1) r) id=some x->id≠m/\ ¬(v+1+B.K c*pre.length<=id/\id<v+1+B.K c*pre.length+B.K c):=λ{id x}h=>by
   refine⟨λe=>?_,λhq=>?_⟩
   ·grind [pu]
   ·have:=(pz h).1
    grind
  obtain⟨G',s',a1,a2,a3,a4,a5⟩:=SG hk Lb r (pre++[y]) _ G1 w (by grind) Od (by
   rw[eK,ez rfl,re,Wo]) λid x h=>by
   rw[re,Wo]at h;obtain⟨n1,n2⟩:=fG h;simp only;rw[eK,fN (λe=>n1 e.symm),uC,fN n2];refine hr id x ?_;rw[cX];split
   ·rename_i z hq;exact absurd (ji hq) n2
   ·exact h
  refine⟨G',s',a1,x2.trans hs a2,by rw[a3];simp,λid b h1 h2 h3=>?_,a5⟩;refine a4 id b h1 h2 ?_;simp only;rw[eK,fN (λe=>h1 e.symm),uC,fN (nin h2)];exact h3
section
variable {P:Program} {N:Nat} {ρ:Option Nat} {Q:Exit->Env->St->Prop} {M:TM B.S}
def UQ(m n c:Nat)(x:List (B.S c))(ids:List Nat)(s:dH B.S):dH B.S:=⟨(m,.lz n c x)::ln ids s.heap,s.bN⟩
def faC(B:iU)(m w c:Nat)(ids:List Nat)(S2 s:dH B.S):Bool:=
 pP s.heap&&pP S2.heap&&!(jH m ids)&&!(jH w ids)&&fV w m&&Nat.blt 0 (B.K c)&&ub (kS B s.heap) (kS B S2.heap)
theorem tFa(fY m w n c:Nat)(ids:List Nat)(x:List (B.S c))(hl:x.length<=cO)
  (k:RT B P N ρ Q (EO (toReg B P N fY M).1 (UQ m n c x ids (toReg B P N fY M).1.s)))
  (hx:(kD (toReg B P N fY M).1.o,bn (toReg B P N fY M).1.s.heap m,bn (toReg B P N fY M).1.s.heap w,faC B m w c ids (UQ m n c x ids (toReg B P N fY M).1.s) (toReg B P N fY M).1.s,(toReg B P N fY M).2.map Prod.fst)=
   (true,some (.fm n c w false x [] []),some (.fr c false x 0 []),true,(toReg B P N fY M).2.map Prod.snd):=by kernel_rfl):RT B P N ρ Q M:=by
 simp only[Prod.mk.injEq]at hx;obtain⟨h1,h2,h3,h4,h5⟩:=hx;refine⟨kW (dW h5) ?_⟩;have k:=k.v;unfold EO at k;show kU B P N ρ Q (toReg B P N fY M).1;generalize(toReg B P N fY M).1=g at *;obtain⟨o,kk,bf,s⟩:=g;simp only at h1 h2 h3 h4 k;refine Hx h1 ?_ k;simp only[faC,eU,sr,tv]at h4;obtain⟨⟨⟨⟨⟨⟨w1,w2⟩,d1⟩,d2⟩,d3⟩,hk⟩,d4⟩:=h4;intro G0 s0 w0 G w' a hb h0 hx hn;have hm:=dl h2;simp only[fT,dY,dv,LY,xm,iS,wV]at hm;obtain⟨G',s',a1,a2,a3,a4,a5⟩:=SG hk d3 x [] (db B s) G w' (by grind) hn.iB (by simpa using hm) λid b hb=>js w1 h3 (by simpa[eP,gW]using hb);have xa: ∀id b,bn (db B (UQ m n c x ids s)).heap id=some b->bn s'.heap id=some b:=λid b hb=>by
  have kk: ∀{i c'},bn (UQ m n c x ids s).heap i=some c'->(i=m/\c'=.lz n c x)\/(i≠m/\i≠w/\bn s.heap i=some c'):=λ{i c'}hg=>by
   simp only[UQ,cG]at hg
   grind [uy,jQ]
  rcases ie w2 hb with⟨b0,hg,rfl⟩|⟨_,k,b0,hg,hr⟩
  ·rcases kk hg with⟨rfl,rfl⟩|⟨e1,e2,e3⟩
   ·rw[a3];rfl
   ·exact a4 id _ e1 (iO w1 h3 e3 rfl) (dl e3)
  ·obtain⟨f1,f2⟩:=fc hr;rcases kk hg with⟨rfl,rfl⟩|⟨e1,e2,e3⟩
   ·cases f1
   ·have ho:fV w id=true:=by
     cases ho:fV w id with
     |true=>rfl
     |false=>exact absurd (mA w1 h3 e3 rfl f1 ho f2).symm e2
    grind [js,iO]
 have PB: ∀id,bn s'.heap id=some .gq->bn (db B (UQ m n c x ids s)).heap id=some .gq:=λid hd=>by
  rcases a2.ids id _ hd with⟨b0,Gi⟩|L7
  ·by_cases e:id=m
   ·grind
   ·by_cases ho:fV w id=true
    ·have:=a4 id b0 e ho Gi;rw[hd]at this;cases this;rcases ie w1 Gi with⟨b,hg,hb⟩|⟨_,k,b,hg,hr⟩
     ·have:=ly d4 id (by grind [gv]);simp only[db];rw[cX,this]
     grind [oI]
    ·exfalso;rcases a1.heap id _ hd with⟨r,o,e1,e2,e3⟩|⟨_,_,_,e2⟩
     ·cases e3;rcases hn.iB.heap id _ Gi with⟨r',o',q1,q2,q3⟩|⟨q1,_,_,q2⟩
      ·have:=a2.le.own _ _ q1;rw[e1]at this;cases this;rw[e2]at q2;cases q2;cases q3;rcases ie w1 Gi with⟨b,hg,hb⟩|⟨_,k,b,hg,hr⟩
       ·exact ho (iO w1 h3 hg rfl)
       ·exact oI hr
      ·rw[a2.stay id (hn.iB.lt _ _ Gi) q1]at e1;cases e1
     ·cases e2
  ·have:=a1.lt id _ hd
   grind
 have XN:Ext G' s' w' G' (db B (UQ m n c x ids s)) w':=Ext.drop xa (by rw[a5];exact fw _) PB;have PK:=a2.trans hn.iB XN;exact⟨G',⟨a1.drop xa (by rw[a5];exact fw _),hn.bf.mono a2.le,hn.size,hn.mr.ext PK,hn.known.le a2.le⟩,hx.trans h0 PK⟩
end
end
end Go.Am
section
namespace Go.Am
open Go.RowKit
variable {S:Nat->Type} {E:(c:Nat)->S c->AV} {W K:Nat->Nat} {Y:(c:Nat)->Nat->S c->TV S} {Z:(c:Nat)->Nat->S c->List (ZB S)} {c:Nat}
theorem ep(hK:K c=0)(hZ: ∀r y,Z c r y=[])(hY: ∀r y,(Y c r y).er E=E c y)(hw: ∀y,(E c y).cells.length=W c)(F6: ∀y,(E c y).dn=true):Bl E W K Y Z c where
 hk:=by grind
 hz:=λr y=>by grind
 hw:=λr y=>by grind
 hs:=λh=>by grind
 hf:=λr y s G w hs _=>⟨G,by rw[hK];exact hs,by rw[hK];exact .refl _ _ _,λj x x' v h1 h2 hv=>by
  grind⟩
 hi:=λh=>by grind
 hr:=λok π r r' y _=>⟨by rw[hY,hY];exact .c (F6 y),λj b b' h=>by grind⟩
theorem UR{d n:Nat}(L:S c->List (S d))(hK:K c=1)(hW:W c=1)(hZ: ∀r y,Z c r y=[.l n d (L y)])(hY: ∀r y,(Y c r y).er E=.ms r 0 (L y).length)(hE: ∀y,E c y=.sl false ((L y).map (E d)))(hd: ∀z,(E d z).dn=true)
  (hi: ∀x y,E c x=E c y->x=y):Bl E W K Y Z c where
 hk:=by grind
 hz:=λr y=>by grind
 hw:=λr y=>by simp_all
 hs:=λ_ y x hx=>by
  simp_all
 hf:=λr y s G w hs hz=>by
  have h0:=hz 0 (.l n d (L y)) (by rw[hZ];rfl);obtain⟨G',a1,a2,a3,_⟩:=kw hs (bq:=0) (len:=0) h0 (Ds _);rw[hK];refine⟨G',a1,a2,λj x x' v h1 h2 hv=>?_⟩;rw[hY]at h1;rw[hE]at h2;cases j with
  |succ j=>simp_all
  |zero=>
   simp[AV.cells]at h1 h2;subst h1;subst h2;have:=a3 0 (L y).length v (by simp[Ga]) hv;simpa[Ga,sq]using this
 hi:=λ_=>hi
 hr:=λok π r r' y h=>by
  obtain⟨h1,h2⟩:=h 0 (by grind);refine⟨by rw[hY,hY];exact .ms h1 h2,λj b b' e1 e2=>?_⟩;rw[hZ]at e1 e2;cases j with
  |succ j=>simp at e1
  |zero=>
   simp at e1 e2;subst e1;subst e2;refine .cells (.r (ec.2 λx hx=>?_));obtain⟨z,_,rfl⟩:=mS.1 hx;exact hd z
theorem US{d n p:Nat}(L:S c->List (S d))(a b:S c->List AV)(hp: ∀y,(a y).length=p)(hK:K c=1)(hW: ∀y,(a y).length+1+(b y).length=W c)(hZ: ∀r y,Z c r y=[.l n d (L y)])(hY: ∀r y,(Y c r y).er E=.agg (a y++ .ms r 0 (L y).length::b y))
  (hE: ∀y,E c y=.agg (a y++ .sl false ((L y).map (E d))::b y)) (hd: ∀z,(E d z).dn=true) (Lc: ∀y,eO (a y)=true/\eO (b y)=true) (kI: ∀y x,x∈a y++b y->x.cJ=true) (hi: ∀x y,E c x=E c y->x=y):Bl E W K Y Z c where
 hk:=by grind
 hz:=λr y=>by grind
 hw:=λr y=>by rw[hY,<-hW y];simp[AV.cells];omega
 hs:=λ_ y x hx=>by
  rw[hE]at hx;simp only[AV.cells,oq,pU]at hx;rcases hx with h|rfl|h
  ·grind
  ·rfl
  grind
 hf:=λr y s G w hs hz=>by
  have h0:=hz 0 (.l n d (L y)) (by rw[hZ];rfl);obtain⟨G',a1,a2,a3,_⟩:=kw hs (bq:=0) (len:=0) h0 (Ds _);rw[hK];refine⟨G',a1,a2,λj x x' v h1 h2 hv=>?_⟩;rw[hY]at h1;rw[hE]at h2;simp only[AV.cells]at h1 h2;by_cases hj:j<(a y).length
  ·rw[Aq hj]at h1 h2;rw[h1]at h2;cases h2;exact hv.mono a2.le
  ·rw[DB (by omega)]at h1 h2;cases hq:j-(a y).length with
   |zero=>
    rw[hq]at h1 h2;simp at h1 h2;subst h1;subst h2;have:=a3 0 (L y).length v (by simp[Ga]) hv;simpa[Ga,sq]using this
   |succ k=>
    rw[hq]at h1 h2;simp at h1 h2;rw[h1]at h2;cases h2;exact hv.mono a2.le
 hi:=λ_=>hi
 hr:=λok π r r' y h=>by
  obtain⟨h1,h2⟩:=h 0 (by grind);refine⟨by rw[hY,hY];exact .a (.p (.r (Lc y).1) (.k (.ms h1 h2) (.r (Lc y).2))),λj b b' e1 e2=>?_⟩;rw[hZ]at e1 e2;cases j with
  |succ j=>simp at e1
  |zero=>
   simp at e1 e2;subst e1;subst e2;refine .cells (.r (ec.2 λx hx=>?_));obtain⟨z,_,rfl⟩:=mS.1 hx;exact hd z
theorem UT{d n n2:Nat}(L:S c->List (S d))(T:Nat->S c->TV S)(a b:S c->List AV)(hK:K c=2)(hW:W c=1)(hZ: ∀r y,Z c r y=[.o n [T r y],.l n2 d (L y)])(hY: ∀r y,(Y c r y).er E=.mp r 0 0)(hT: ∀r y,(T r y).er E=.agg (a y++ .ms (r+1) 0 (L y).length::b y))
  (hE: ∀y,E c y=.ip (a y++ .sl false ((L y).map (E d))::b y)) (hd: ∀z,(E d z).dn=true) (Lc: ∀y,eO (a y)=true/\eO (b y)=true) (hi: ∀x y,E c x=E c y->x=y):Bl E W K Y Z c where
 hk:=by grind
 hz:=λr y=>by grind
 hw:=λr y=>by simp_all
 hs:=λ_ y x hx=>by
  rw[hE]at hx;simp[AV.cells]at hx;subst hx;rfl
 hf:=λr y s G w hs hz=>by
  have h0:=hz 0 (.o n [T r y]) (by rw[hZ];rfl);have h1:=hz 1 (.l n2 d (L y)) (by rw[hZ];rfl);obtain⟨G1,a1,a2,a3,_⟩:=kw hs (bq:=0) (len:=0) h1 (Ds _);simp only[F0,Ga,dY,hT,Nc]at h0;have g0:bn (dZ s.heap (r+1)) r=some (.cells n [.agg (a y++ .ms (r+1) 0 (L y).length::b y)]):=by
   simp_all[fO]
  have Od:=a1.swap (es':=[.agg (a y++ .sl false ((L y).map (E d))::b y)]) g0 (λe=>by cases e) λrg o ho hw=>by
   rcases hs.heap r _ h0 with⟨r',o',e1,e2,e3⟩|⟨e1,sz,_,e2⟩
   ·have:=a2.le.own _ _ e1;rw[ho]at this;cases this;rw[hw]at e2;cases e2;cases e3 with
    |cells _ _ cs e eB eo h0 jR kI ga hV=>
     refine .cells _ _ cs e eB eo h0 (λx hx=>?_) (λx hx=>?_) (by grind) λk x hx=>?_
     ·simp_all
     ·simp only[de,F1,PY,wV,AV.cells,oq,pU]at hx kI;rcases hx with h|rfl|h
      all_goals simp_all
     ·simp only[de,F1,PY,wV,AV.cells]at hx hV;by_cases hj:k<(a y).length
      ·rw[Aq hj]at hx;obtain⟨u,p1,p2⟩:=hV k x (by grind);exact⟨u,p1,p2.mono a2.le⟩
      ·rw[DB (by omega)]at hx;cases hq:k-(a y).length with
       |zero=>
        rw[hq]at hx;simp at hx;subst hx;obtain⟨u,p1,p2⟩:=hV k (.ms (r+1) 0 (L y).length) (by grind);have:=a3 0 (L y).length u (by simp[Ga]) p2;exact⟨u,p1,by simpa[Ga,sq]using this⟩
       |succ j=>
        rw[hq]at hx;obtain⟨u,p1,p2⟩:=hV k x (by grind);exact⟨u,p1,p2.mono a2.le⟩
   grind
  have x2:=a2.swap (es':=[.agg (a y++ .sl false ((L y).map (E d))::b y)]) g0;obtain⟨G2,b1,b2,_,b4⟩:=kw Od (bq:=0) (len:=0) (id:=r) (by rw[eK,ez rfl]) (Ds _);have ed:dZ (dM (dZ s.heap (r+1)) r (.cells n [.agg (a y++ .sl false ((L y).map (E d))::b y)])) r=dZ (dZ s.heap (r+1)) r:=by
   have: ∀{h:List (Nat×gM)}{i:Nat}{x:gM},(∃b,bn h i=some b)->dZ (dM h i x) i=dZ h i:=by
    intro h i x
    induction h with
    |nil=>grind [df]
    |cons p q ih=>
     rintro⟨b,hb⟩;obtain⟨k,z⟩:=p;simp only[cG]at hb;simp only[tz];split
     ·rename_i e;subst e;simp[dZ]
     ·rename_i e;rw[fN e]at hb;simp only[dZ,fN e,ih ⟨b,hb⟩]
   grind
  rw[hK];have fin:G8 r 2 s.heap=dZ (dZ s.heap (r+1)) r:=rfl;rw[fin];rw[ed]at b1 b2;refine⟨G2,b1,x2.trans hs b2,λj x x' v h1 h2 hv=>?_⟩;rw[hY]at h1;rw[hE]at h2;cases j with
  |succ j=>simp_all
  |zero=>
   simp[AV.cells]at h1 h2;subst h1;subst h2;exact b4 _ v rfl (hv.mono x2.le)
 hi:=λ_=>hi
 hr:=λok π r r' y h=>by
  obtain⟨h1,h2⟩:=h 0 (by grind);obtain⟨h3,h4⟩:=h 1 (by grind);refine⟨by rw[hY,hY];exact .mp h1 h2,λj b b' e1 e2=>?_⟩;rw[hZ]at e1 e2;cases j with
  |zero=>
   simp at e1 e2;subst e1;subst e2;simp only[Ga,dY,hT,Nc];exact .cells (.k (.a (.p (.r (Lc y).1) (.k (.ms h3 h4) (.r (Lc y).2)))) .z)
  |succ j=>
   cases j with
   |zero=>
    simp at e1 e2;subst e1;subst e2;refine .cells (.r (ec.2 λx hx=>?_));obtain⟨z,_,rfl⟩:=mS.1 hx;exact hd z
   |succ j=>simp at e1
end Go.Am
end
