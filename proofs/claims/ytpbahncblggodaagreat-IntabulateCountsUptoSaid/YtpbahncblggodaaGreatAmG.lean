/- The logic AM, G: families of blocks: an element opened, shut, put in; a family that becomes immutable. -/
import Derived.Test.YtpbahncblggodaaGreatAmR
set_option linter.all false
namespace Go.Am
open Go.RowKit
structure Ar (π:Nat->Nat) (S2 s:St):Prop where
 heap: ∀id b,bH S2.heap id=some b-> ∃b',bH s.heap (π id)=some b'/\(b=b'\/Bd (gw s.bT S2.heap) π b b')
 low: ∀id,id<s.bT->π id=id
 inj: ∀id fG b b',bH S2.heap id=some b->bH S2.heap fG=some b'->π id=π fG->id=fG
 lt: ∀id b,bH S2.heap id=some b->id<S2.bT
 cb:s.bT<=S2.bT
 gr: ∀id,bH s.heap id=some .gr->bH S2.heap id=some .gr
section
variable {π:Nat->Nat} {S2 s s0:St} {G G0:cg} {w w0:World}
theorem Ar.le(h:Ar π S2 s)(hs:eL G s w):sr G (fM s.bT π S2.heap G):=⟨λ_ _ _ h=>h,λid r ho=>by
 have:id<s.bT:=by
  by_cases hq:id<s.bT
  ·exact hq
  ·rw[hs.ct id (by omega)]at ho;cases ho
 simp only[fM,nX this,u0,h.low id this];exact ho⟩
theorem Ar.iQ(h:Ar π S2 s)(hs:eL G s w):eL (fM s.bT π S2.heap G) S2 w:=by
 refine⟨hs.gP,λid b hg=>?_,λid fG b b' r r' h1 h2 o1 o2 eV=>?_,λid b r o hg ho=>?_,λid jT=>?_,h.lt⟩
 ·rw[wV hg]
  obtain⟨b',nq,hc⟩:=h.heap id b hg
  rcases hs.heap _ _ nq with⟨r,o,e1,e2,e3⟩|⟨e1,cB,h0,e2⟩
  ·refine .inl ⟨r,o,e1,e2,?_⟩
   rcases hc with rfl|hc
   ·exact e3.mono (h.le hs)
   ·exact hc.holds Be e3
  ·refine .inr ⟨e1,cB,h0,?_⟩
   rcases hc with rfl|hc
   ·exact e2
   ·subst e2;exact hc.nil
 ·rw[wV h1]at o1
  rw[wV h2]at o2
  obtain⟨c,hc,_⟩:=h.heap id b h1
  obtain⟨c',RG,_⟩:=h.heap fG b' h2
  exact hs.apart _ _ c c' r r' hc RG o1 o2 λe=>eV (h.inj id fG b b' h1 h2 e)
 ·rw[wV hg]at ho
  obtain⟨c,hc,_⟩:=h.heap id b hg
  exact hs.clear _ c r o hc ho
 ·have hb:=h.cb
  have:gw s.bT S2.heap id=false:=by
   cases hq:gw s.bT S2.heap id with
   |false=>rfl
   |true=>
    simp only[gw,tz,rO]at hq
    rcases hq with hq|hq
    ·omega
    ·obtain⟨b,hb⟩:=iA.1 hq
     have:=h.lt id b hb
     omega
  simp[fM,this]
theorem Ar.ext(h:Ar π S2 s)(h0:eL G0 s0 w0)(hx:Ext G0 s0 w0 G s w)(hs:eL G s w)(hb:s0.bT<=s.bT):Ext G0 s0 w0 (fM s.bT π S2.heap G) S2 w:=by
 have lo: ∀id,id<s.bT->(fM s.bT π S2.heap G).own id=G.own id:=λid hl=>by simp only[fM,nX hl,u0,h.low id hl]
 refine⟨hx.le.trans (h.le hs),hx.os,hx.tape,hx.output,hx.size,hx.keep,hx.jA,λid r ho=>?_,λid b hg=>?_,vU hb h.cb,λid hd=>h.gr id (hx.gr id hd),λid hl ho=>?_,hx.drawn⟩
 ·by_cases hl:id<s.bT
  ·rw[lo id hl]at ho;exact hx.iW id r ho
  ·have Dj:gw s.bT S2.heap id=true:=by
    cases hq:gw s.bT S2.heap id with
    |true=>rfl
    |false=>simp[fM,hq]at ho
   have hh:has S2.heap id=true:=by
    simp only[gw,tz,rO]at Dj
    rcases Dj with hq|hq
    ·exact absurd hq hl
    ·exact hq
   obtain⟨b,hg⟩:=iA.1 hh
   rw[wV hg]at ho
   obtain⟨c,hc,_⟩:=h.heap id b hg
   rcases hx.iW _ r ho with q|q
   ·rcases hx.ids _ c hc with⟨c0,q0⟩|q0
    ·exact .inr (.inr ⟨_,c0,r,q0,q,rfl⟩)
    ·rw[h0.ct _ q0]at q;cases q
   ·exact .inr q
 ·by_cases hl:id<s.bT
  ·obtain⟨c,hc,_⟩:=h.heap id b hg
   rw[h.low id hl]at hc;exact hx.ids id c hc
  ·exact .inr (by omega)
 ·rw[lo id (by omega)];exact hx.stay id hl ho
theorem D4{N:Nat}{ρ:Option Nat}{bI:Env}(h:Ar π S2 s):Gm N ρ s.bT bI S2 bI s:=λhb h0 hx hn=>
 ⟨_,⟨h.iQ hn.iQ,hn.bI.mono (h.le hn.iQ),hn.size,hn.mg.ext (h.ext hn.iQ (.refl _ _ _) hn.iQ (eF _)),hn.known.le (h.le hn.iQ)⟩,h.ext h0 hx hn.iQ hb⟩
end
section
variable {B:jc}
def toTB{S:Nat->Type}:ZB S->TB S
 |.o n l=>.cH n l
 |.l n c x=>.lz n c x
theorem toTB_er(z:ZB B.S):fx B (toTB z)=L2 (FI B.E z):=by cases z<;>rfl
theorem toTB_fr(z:ZB B.S):fR (toTB z)=false:=by cases z<;>rfl
def qw{S:Nat->Type}:Nat->List (ZB S)->List (Nat×TB S)
 |_,[]=>[]
 |i,z::r=>(i,toTB z)::qw (i+1) r
theorem Bi{l:List (ZB B.S)}{i id:Nat}:bH (qw i l) id=if i<=id then(l[id-i]?).map toTB else none:=by
 induction l generalizing i with
 |nil=>simp[qw,cV]
 |cons z r ih=>
  simp only[qw,cM]
  split
  ·rename_i e;subst e;simp
  ·rename_i eV
   rw[ih]
   by_cases h:i<=id
   ·rw[dD h,dD (by omega),show id-i=(id-(i+1))+1 from by omega];simp
   ·rw[dM h,dM (by omega)]
theorem ue{h:List (Nat×TB B.S)}{id:Nat}{b:TB B.S}: ∀{ks:List Nat},bH (kU ks h) id=some b->jE id ks=true
 | [],hg=>by simp[kU,cV]at hg
 |k::r,hg=>by
  unfold kU at hg
  have hr:jE id r=true->jE id (k::r)=true:=λh=>by
   unfold jE at h |-
   simp only[U4,h,Bool.or_true]
  split at hg
  ·simp only[cM]at hg
   split at hg
   ·rename_i e;subst e;exact HW (by simp)
   ·exact hr (ue hg)
  ·exact hr (ue hg)
theorem yz{c w:Nat}{b:List (B.S c)}: ∀{a:List (B.S c)}{i:Nat},iK B c w i (a++b)=iK B c w i a++iK B c w (i+a.length) b
 | [],i=>rfl
 |y::r,i=>by
  by_cases hi:i<cT
  ·rw[wI,kZ hi,kZ hi,yz (a:=r),wI,oG,show i+1+r.length=i+(r.length+1)from by omega]
  ·have e: ∀(l:List (B.S c))j,i<=j->iK B c w j l=[]:=λl j hj=>by
    cases l with
    |nil=>rfl
    |cons z q=>simp only[iK,Pf (show¬j<cT by omega),dj]
   rw[e _ _ (eF _),e _ _ (eF _),e _ _ (by omega)];rfl
theorem yA{c w:Nat}{b:List (B.S c)}: ∀{a:List (B.S c)}{i:Nat},gx B c w i (a++b)=gx B c w i a++gx B c w (i+a.length) b
 | [],i=>rfl
 |y::r,i=>by
  by_cases hi:i<cT
  ·rw[wI,mw hi,mw hi,yA (a:=r),DC,oG,show i+1+r.length=i+(r.length+1)from by omega]
  ·have e: ∀(l:List (B.S c))j,i<=j->gx B c w j l=[]:=λl j hj=>by
    cases l with
    |nil=>rfl
    |cons z q=>simp only[gx,Pf (show¬j<cT by omega),dj]
   rw[e _ _ (eF _),e _ _ (eF _),e _ _ (by omega)];rfl
theorem oY{c w i id:Nat}{l:List (B.S c)}{x:gD}(h:bH (gx B c w i l) id=some x):w+1+B.K c*i<=id/\id<w+1+B.K c*(i+l.length):=by
 obtain⟨j,y,h1,h2,h3,h4⟩:=uc h
 obtain⟨g1,g2,_⟩:=ud h4
 rw[(B.hF c).hz]at g2
 have hj:j-i<l.length:=(fP.1 h3).1
 have e1:B.K c*i<=B.K c*j:=YS _ h1
 have e2:B.K c*(j+1)<=B.K c*(i+l.length):=YS _ (by omega)
 rw[U5,Nat.mul_one]at e2
 constructor <;>omega
theorem jd{c r id:Nat}{y:B.S c}{x:gD}(h:bH (jO B r (B.Z c r y)) id=some x):r<=id/\id<r+B.K c:=by
 obtain⟨g1,g2,_⟩:=ud h
 rw[(B.hF c).hz]at g2
 exact⟨g1,g2⟩
section
variable {m w n c:Nat} {cl:Bool} {pre post:List (B.S c)} {y:B.S c} {ids:List Nat} {s:dP B.S}
def Gn(B:jc)(m w n c:Nat)(cl:Bool)(pre:List (B.S c))(y:B.S c)(post:List (B.S c))(ids:List Nat)(s:dP B.S):dP B.S:=
 ⟨qw s.bT (B.Z c s.bT y)++(m,.fm n c w cl pre [B.Y c s.bT y] post)::(w,.fr c cl pre 1 post)::kU ids s.heap,s.bT+B.K c⟩
def XY(B:jc)(m w:Nat)(ids:List Nat)(S2 s:dP B.S):Bool:=
 pN s.heap&&pN S2.heap&&Bg s.bT s.heap&&(s.heap.all λp=>Nat.blt p.1 s.bT)&&!(jE m ids)&&!(jE w ids)&&Bf (kC B s.heap) (kC B S2.heap)
theorem Z2{A M Z:List (Nat×gD)}{id:Nat}{x:gD}(hA: ∀z z',bH A id=some z->bH M id=some z'->False)(hZ: ∀z z',bH Z id=some z->bH M id=some z'->False):
  bH (A++(M++Z)) id=some x↔(bH (A++Z) id=some x\/bH M id=some x):=by
 rw[cZ,cZ,cZ]
 cases hq:bH A id with
 |some z=>
  cases hn:bH M id with
  |some z'=>exact(hA _ _ hq hn).elim
  |none=>simp
 |none=>
  cases hn:bH M id with
  |none=>simp
  |some z'=>
   cases hr:bH Z id with
   |some z=>exact(hZ _ _ hr hn).elim
   |none=>simp
theorem uf(hc:pre.length<cT){id:Nat}{x:gD}:bH (eR B w (.fr c cl pre 0 (y::post))) id=some x↔
  (bH (eR B w (.fr c cl pre 1 post)) id=some x\/bH (jO B (w+1+B.K c*pre.length) (B.Z c (w+1+B.K c*pre.length) y)) id=some x):=by
 simp only[eR,Dl]
 rw[mw hc]
 refine Z2 (λz z' h h'=>?_) λz z' h h'=>?_
 ·have h2:=(jd h').1
  cases cl with
  |true=>simp[cV]at h
  |false=>have h1:=(oY h).2;rw[BU]at h1;omega
 ·have h2:=(jd h').2
  have h1:=(oY h).1
  rw[U5]at h1
  omega
theorem Bj{bm bw:TB B.S}(hm:bH s.heap m=some bm)(hme:fx B bm=fx B (.fm n c w cl pre [] (y::post)))(hmf:fR bm=false)(hw:bH s.heap w=some bw)(UD:fR bw=true)(hwe:eR B w bw=eR B w (.fr c cl pre 0 (y::post)))(hc:pre.length<cT)
  (hC:XY B m w ids (Gn B m w n c cl pre y post ids s) s=true):Ar (λid=>if id<s.bT then id else w+1+B.K c*pre.length+(id-s.bT)) (dl B (Gn B m w n c cl pre y post ids s)) (dl B s):=by
 simp only[XY,fi,p9]at hC
 obtain⟨⟨⟨⟨⟨⟨w1,w2⟩,w3⟩,w4⟩,d1⟩,d2⟩,d3⟩:=hC
 have low: ∀{id b},bH s.heap id=some b->id<s.bT:=λhg=>by have:=dU w4 hg;simpa[rO]using this
 have JR: ∀{k b id x},bH s.heap k=some b->bH (eR B k b) id=some x->id<s.bT:=λ{k b id x}hg hx=>by
  obtain⟨f1,f2⟩:=ff hx
  have:=dU w3 hg
  simp only[f1,p8,Hx]at this
  have:=tA this
  obtain⟨o1,o2⟩:=fe f2
  omega
 have aaM:(dl B s).bT=s.bT:=rfl
 have hmw:m≠w:=λe=>by subst e;rw[hm]at hw;cases hw;rw[hmf]at UD;cases UD
 have hwb:fx B bw=.cells 1 []:=by
  obtain⟨_,_,_,_,_,rfl⟩:=lH UD
  rfl
 have key: ∀{id b},bH (Gn B m w n c cl pre y post ids s).heap id=some b->(s.bT<=id/\ ∃z,(B.Z c s.bT y)[id-s.bT]? =some z/\b=toTB z)\/(id=m/\b=.fm n c w cl pre [B.Y c s.bT y] post)\/(id=w/\b=.fr c cl pre 1 post)\/(id≠m/\id≠w/\bH s.heap id=some b):=λ{id b}hg=>by
  simp only[Gn]at hg
  rw[cZ,Bi]at hg
  by_cases eE:s.bT<=id
  ·rw[dD eE]at hg
   cases hz:(B.Z c s.bT y)[id-s.bT]? with
   |some z=>rw[hz]at hg;cases hg;exact .inl ⟨eE,z,rfl,rfl⟩
   |none=>
    exfalso
    rw[hz]at hg
    simp only[RJ,cM]at hg
    have:=low hm
    have:=low hw
    rw[dM (by omega),dM (by omega)]at hg
    have:=low (jL hg)
    omega
  ·rw[dM eE]at hg
   simp only[cM]at hg
   split at hg
   ·rename_i e;cases hg;exact .inr (.inl ⟨e.symm,rfl⟩)
   ·split at hg
    ·rename_i e;cases hg;exact .inr (.inr (.inl ⟨e.symm,rfl⟩))
    ·rename_i e1 e2
     exact .inr (.inr (.inr ⟨λe=>e1 e.symm,λe=>e2 e.symm,jL hg⟩))
 have row: ∀{k b id x},bH (Gn B m w n c cl pre y post ids s).heap k=some b->bH (eR B k b) id=some x-> ∃b',bH s.heap k=some b'/\bH (eR B k b') id=some x/\(k=w->bH (eR B w (.fr c cl pre 1 post)) id=some x):=λ{k b id x}hg hx=>by
  obtain⟨f1,f2⟩:=ff hx
  rcases key hg with⟨_,z,_,rfl⟩|⟨rfl,rfl⟩|⟨rfl,rfl⟩|⟨h1,h2,h3⟩
  ·rw[toTB_fr]at f1;cases f1
  ·cases f1
  ·exact⟨_,hw,by rw[hwe];exact(uf hc).2 (.inl hx),λ_=>hx⟩
  ·exact⟨b,h3,hx,λe=>absurd e h2⟩
 have ok: ∀j,j<B.K c->gw (dl B s).bT (dl B (Gn B m w n c cl pre y post ids s)).heap (s.bT+j)=true:=λj hj=>by
  obtain⟨z,hz⟩: ∃z,(B.Z c s.bT y)[j]? =some z:=⟨_,dH (by rw[(B.hF c).hz];exact hj)⟩
  refine qs (b:=fx B (toTB z)) (dp (b:=toTB z) ?_)
  simp only[Gn]
  rw[cZ,Bi,dD (by omega),show s.bT+j-s.bT=j from by omega,hz]
  rfl
 have Jn:=(B.hF c).hr (gw (dl B s).bT (dl B (Gn B m w n c cl pre y post ids s)).heap) (λid=>if id<s.bT then id else w+1+B.K c*pre.length+(id-s.bT)) s.bT (w+1+B.K c*pre.length) y λj hj=>⟨ok j hj,by
  rw[dM (by omega)];omega⟩
 have same: ∀{i:Nat}{l:List (B.S c)},sw (gw (dl B s).bT (dl B (Gn B m w n c cl pre y post ids s)).heap) (λid=>if id<s.bT then id else w+1+B.K c*pre.length+(id-s.bT)) (iK B c w i l) (iK B c w i l):=λ{i l}=>re λid x hx=>by
  have eZ:=oX hx
  obtain⟨o1,o2⟩:=fe eZ
  have:=dU w3 hw
  simp only[UD,p8,Hx]at this
  have:=tA this
  exact⟨nX (by show id<s.bT;omega),by rw[dD (by omega)];omega⟩
 refine⟨?_,λid hl=>dD hl,?_,?_,by show s.bT<=s.bT+B.K c;omega,?_⟩
 ·intro id b hb
  rcases gU w2 hb with⟨b0,hg,rfl⟩|⟨_,k,b0,hg,hr⟩
  ·rcases key hg with⟨eE,z,hz,rfl⟩|⟨rfl,rfl⟩|⟨rfl,rfl⟩|⟨h1,h2,h3⟩
   ·have hl:id-s.bT<B.K c:=by rw[<-(B.hF c).hz s.bT y];exact(fP.1 hz).1
    have Gl:(B.Z c (w+1+B.K c*pre.length) y)[id-s.bT]? =some ((B.Z c (w+1+B.K c*pre.length) y)[id-s.bT]'(by rw[(B.hF c).hz];exact hl)):=dH _
    refine⟨_,?_,.inr (by rw[toTB_er];exact Jn.2 _ _ _ hz Gl)⟩
    rw[dM (by omega)]
    refine jo w1 hw ?_
    rw[hwe]
    refine(uf hc).2 (.inr ?_)
    rw[kY,dD (by omega),show w+1+B.K c*pre.length+(id-s.bT)-(w+1+B.K c*pre.length)=id-s.bT from by omega,Gl]
    rfl
   ·refine⟨fx B (.fm n c w cl pre [] (y::post)),?_,.inr ?_⟩
    ·rw[dD (low hm),<-hme]
     exact dp hm
    ·simp only[fx,dY,Kz,Ui,Dl,rN]
     rw[kZ hc]
     refine .cells (.p ?_ (.k Jn.1 same))
     cases cl with
     |true=>exact .r (la c pre)
     |false=>exact same
   ·refine⟨fx B (.fr c cl pre 0 (y::post)),?_,.inl rfl⟩
    rw[dD (low hw)]
    exact(dp hw).trans (by rw[hwb];rfl)
   ·refine⟨_,?_,.inl rfl⟩
    rw[dD (low h3)]
    exact dp h3
  ·obtain⟨b',g1,g2,_⟩:=row hg hr
   refine⟨_,?_,.inl rfl⟩
   rw[dD (JR g1 g2)]
   exact jo w1 g1 g2
 ·intro id fG b b' hb nq e
  have nm: ∀{id b},bH (dl B (Gn B m w n c cl pre y post ids s)).heap id=some b->id<s.bT-> ∀j,j<B.K c->id≠w+1+B.K c*pre.length+j:=λ{id b}hb hl j hj e=>by
   have hz:=qZ (r:=w+1+B.K c*pre.length) (y:=y) hj
   obtain⟨z,hz⟩:=hz
   have Jn:=(uf (cl:=cl) (post:=post) hc).2 (.inr hz)
   have eZ:=(ff Jn).2
   rcases gU w2 hb with⟨b0,hg,rfl⟩|⟨_,k,b0,hg,hr⟩
   ·have hk: ∃b1,bH s.heap id=some b1:=by
     rcases key hg with⟨eE,_⟩|⟨rfl,_⟩|⟨rfl,_⟩|⟨_,_,h3⟩
     ·omega
     ·exact⟨_,hm⟩
     ·exact⟨_,hw⟩
     ·exact⟨_,h3⟩
    obtain⟨b1,h1⟩:=hk
    have:=iJ w1 hw h1 UD
    rw[e,eZ]at this;cases this
   ·obtain⟨b1,g1,g2,g3⟩:=row hg hr
    obtain⟨f1,f2⟩:=ff g2
    have hkw:=lX w1 g1 hw f1 UD f2 (by rw[e];exact eZ)
    have:=g3 hkw
    simp only[eR]at this
    rw[cZ]at this
    split at this
    ·rename_i z hq
     cases cl with
     |true=>simp[cV]at hq
     |false=>have h4:=(oY hq).2;simp at h4;omega
    ·have h4:=(oY this).1
     rw[U5]at h4
     omega
  have hi: ∀{id b},bH (dl B (Gn B m w n c cl pre y post ids s)).heap id=some b-> ¬id<s.bT->id-s.bT<B.K c:=λ{id b}hb hl=>by
   rcases gU w2 hb with⟨b0,hg,rfl⟩|⟨_,k,b0,hg,hr⟩
   ·rcases key hg with⟨_,z,hz,_⟩|⟨rfl,_⟩|⟨rfl,_⟩|⟨_,_,h3⟩
    ·rw[<-(B.hF c).hz s.bT y];exact(fP.1 hz).1
    ·exact absurd (low hm) hl
    ·exact absurd (low hw) hl
    ·exact absurd (low h3) hl
   ·obtain⟨b1,g1,g2,_⟩:=row hg hr
    exact absurd (JR g1 g2) hl
  by_cases h1:id<s.bT<;>by_cases h2:fG<s.bT
  ·rw[dD h1,dD h2]at e;exact e
  ·rw[dD h1,dM h2]at e;exact absurd e (nm hb h1 _ (hi nq h2))
  ·rw[dM h1,dD h2]at e;exact absurd e.symm (nm nq h2 _ (hi hb h1))
  ·rw[dM h1,dM h2]at e;omega
 ·intro id b hb
  show id<s.bT+B.K c
  rcases gU w2 hb with⟨b0,hg,rfl⟩|⟨_,k,b0,hg,hr⟩
  ·rcases key hg with⟨_,z,hz,_⟩|⟨rfl,_⟩|⟨rfl,_⟩|⟨_,_,h3⟩
   ·have:id-s.bT<B.K c:=by rw[<-(B.hF c).hz s.bT y];exact(fP.1 hz).1
    omega
   ·have:=low hm;omega
   ·have:=low hw;omega
   ·have:=low h3;omega
  ·obtain⟨b1,g1,g2,_⟩:=row hg hr
   have:=JR g1 g2;omega
 ·intro id hd
  rcases gU w1 hd with⟨b,hg,hb⟩|⟨hn,k,b,hg,hr⟩
  ·have:=nY d3 id (by rw[fX,hg,gy,<-hb])
   simp only[dl]
   rw[cZ,this]
  ·exact(nZ hr).elim
def KE(B:jc)(m n c:Nat)(x:List (B.S c))(ids:List Nat)(s:dP B.S):dP B.S:=
 ⟨(m,.fm n c s.bT false x [] [])::(s.bT,.fr c false x 0 [])::kU ids s.heap,s.bT+vr+1⟩
def Z3(B:jc)(m w r k:Nat)(ids:List Nat)(S2 s:dP B.S):Bool:=
 pN s.heap&&pN S2.heap&&Bg s.bT s.heap&&(s.heap.all λp=>Nat.blt p.1 s.bT)&&!(jE m ids)&&!(jE w ids)&&(ids.all λi=>!(Nat.ble r i&&Nat.blt i (r+k)))&&Bf (kC B s.heap) (kC B S2.heap)
theorem JS{r:Nat}{x:List (B.S c)}(hx:x=pre++y::post)(hm:bH s.heap m=some (.fm n c w false pre [B.Y c r y] post))(hw:bH s.heap w=some (.fr c false pre 1 post))(hz: ∀p∈qw r (B.Z c r y),bH s.heap p.1=some p.2)(hc:pre.length<cT)
  (hC:Z3 B m w r (B.K c) ids (KE B m n c x ids s) s=true):
  Ar (λid=>if id<s.bT then id else if s.bT+1+B.K c*pre.length<=id/\id<s.bT+1+B.K c*pre.length+B.K c then r+(id-(s.bT+1+B.K c*pre.length))else w+(id-s.bT)) (dl B (KE B m n c x ids s)) (dl B s):=by
 simp only[Z3,fi,p9]at hC
 obtain⟨⟨⟨⟨⟨⟨⟨w1,w2⟩,w3⟩,w4⟩,d1⟩,d2⟩,d4⟩,d3⟩:=hC
 have low: ∀{id b},bH s.heap id=some b->id<s.bT:=λhg=>by have:=dU w4 hg;simpa[rO]using this
 have JR: ∀{k b id x},bH s.heap k=some b->bH (eR B k b) id=some x->id<s.bT:=λ{k b id x}hg hx=>by
  obtain⟨f1,f2⟩:=ff hx
  have:=dU w3 hg
  simp only[f1,p8,Hx]at this
  have:=tA this
  obtain⟨o1,o2⟩:=fe f2
  omega
 have UE:=low hw
 have QB:=low hm
 have hwc:w+vr<=s.bT:=by
  have:=dU w3 hw
  simp only[fR,p8,Hx]at this
  exact tA this
 have hz: ∀j z,(B.Z c r y)[j]? =some z->bH s.heap (r+j)=some (toTB z):=λj z hj=>by
  refine hz (r+j,toTB z) ?_
  have: ∀{l:List (ZB B.S)}{r j:Nat},l[j]? =some z->(r+j,toTB z)∈qw r l:=by
   intro l
   induction l with
   |nil=>intro r j h;simp at h
   |cons a q ih=>
    intro r j h
    cases j with
    |zero=>simp at h;subst h;simp[qw]
    |succ j=>
     simp only[qw,mU]
     right
     have:=ih (r:=r+1) (j:=j) (by simpa using h)
     rw[show r+(j+1)=r+1+j from by omega];exact this
  exact this hj
 have XZ: ∀j,j<B.K c-> ∃z,(B.Z c r y)[j]? =some z:=λj hj=>⟨_,dH (by rw[(B.hF c).hz];exact hj)⟩
 have key: ∀{id b},bH (KE B m n c x ids s).heap id=some b->(id=m/\b=.fm n c s.bT false x [] [])\/(id=s.bT/\b=.fr c false x 0 [])\/(id≠m/\id≠w/\id<s.bT/\bH s.heap id=some b/\ ∀j,j<B.K c->id≠r+j):=λ{id b}hg=>by
  simp only[KE,cM]at hg
  split at hg
  ·rename_i e;cases hg;exact .inl ⟨e.symm,rfl⟩
  ·split at hg
   ·rename_i e;cases hg;exact .inr (.inl ⟨e.symm,rfl⟩)
   ·rename_i e1 e2
    have eZ:=ue hg
    refine .inr (.inr ⟨λe=>e1 e.symm,λe=>(by rw[e,d2]at eZ;cases eZ),low (jL hg),jL hg,λj hj e=>?_⟩)
    unfold jE at eZ
    obtain⟨i,hi,hb⟩:=vV.1 eZ
    have:=pT.1 d4 i hi
    have hb:=jh hb
    subst hb
    subst e
    rw[U3 (by omega),JP (by omega)]at this
    cases this
 have hL:iK B c s.bT 0 x=iK B c s.bT 0 pre++(B.Y c (s.bT+1+B.K c*pre.length) y).er B.E::iK B c s.bT (pre.length+1) post:=by
  rw[hx,yz,BU,kZ hc]
 have sx:eR B s.bT (.fr c false x 0 [])=gx B c s.bT 0 x:=by simp[eR,gx]
 have As: ∀{id b},bH (gx B c s.bT 0 x) id=some b↔(bH (eR B s.bT (.fr c false pre 1 post)) id=some b\/bH (jO B (s.bT+1+B.K c*pre.length) (B.Z c (s.bT+1+B.K c*pre.length) y)) id=some b):=λ{id b}=>by
  rw[<-uf (cl:=false) hc,hx,yA,BU]
  simp[eR]
 have row: ∀{k b id x0},bH (KE B m n c x ids s).heap k=some b->bH (eR B k b) id=some x0->(k=s.bT/\(bH (eR B s.bT (.fr c false pre 1 post)) id=some x0\/bH (jO B (s.bT+1+B.K c*pre.length) (B.Z c (s.bT+1+B.K c*pre.length) y)) id=some x0))\/(k≠w/\bH s.heap k=some b):=λ{k b id x0}hg hr=>by
  obtain⟨f1,f2⟩:=ff hr
  rcases key hg with⟨rfl,rfl⟩|⟨rfl,rfl⟩|⟨_,h2,_,h3,_⟩
  ·cases f1
  ·rw[sx]at hr
   exact .inl ⟨rfl,As.1 hr⟩
  ·exact .inr ⟨h2,h3⟩
 have side: ∀{v id b},bH (eR B v (.fr c false pre 1 post)) id=some b->v<id/\id<v+vr/\(id<v+1+B.K c*pre.length\/v+1+B.K c*pre.length+B.K c<=id):=λ{v id b}h=>by
  obtain⟨o1,o2⟩:=fe (ff h).2
  refine⟨o1,o2,?_⟩
  simp only[eR,dj]at h
  rw[cZ]at h
  split at h
  ·rename_i z hq
   have:=(oY hq).2
   rw[BU]at this
   exact .inl this
  ·have h4:=(oY h).1
   rw[U5]at h4
   right;omega
 have DQ: ∀{id b},bH (eR B s.bT (.fr c false pre 1 post)) id=some b->(if id<s.bT then id else if s.bT+1+B.K c*pre.length<=id/\id<s.bT+1+B.K c*pre.length+B.K c then r+(id-(s.bT+1+B.K c*pre.length))else w+(id-s.bT))=w+(id-s.bT):=λ{id b}h=>by
  obtain⟨o1,o2,o3⟩:=side h
  rw[dM (by omega),dM (by omega)]
 have X0: ∀{id b},bH (gx B c s.bT 0 x) id=some b->gw (dl B s).bT (dl B (KE B m n c x ids s)).heap id=true:=λ{id b}h=>
  qs (jo (w:=s.bT) (b:=.fr c false x 0 []) w2 (by simp only[KE,cM];rw[dM (by omega)];simp) (by rw[sx];exact h))
 have Jn:=(B.hF c).hr (gw (dl B s).bT (dl B (KE B m n c x ids s)).heap) (λid=>if id<s.bT then id else if s.bT+1+B.K c*pre.length<=id/\id<s.bT+1+B.K c*pre.length+B.K c then r+(id-(s.bT+1+B.K c*pre.length))else w+(id-s.bT)) (s.bT+1+B.K c*pre.length) r y λj hj=>⟨by
  obtain⟨z,hz⟩:=qZ (r:=s.bT+1+B.K c*pre.length) (y:=y) hj
  exact X0 (As.2 (.inr hz)),by
  rw[dM (by omega),dD (by omega)];omega⟩
 have kw: ∀{id b},bH (gx B c s.bT 0 pre) id=some b->bH (eR B s.bT (.fr c false pre 1 post)) id=some b:=λ{id b}h=>by
  simp only[eR,dj];rw[cZ,h]
 have qp: ∀{id b},bH (gx B c s.bT (pre.length+1) post) id=some b-> ∃b',bH (eR B s.bT (.fr c false pre 1 post)) id=some b':=λ{id b}h=>by
  simp only[eR,dj];rw[cZ]
  cases hq:bH (gx B c s.bT 0 pre) id with
  |some z=>exact⟨z,rfl⟩
  |none=>exact⟨b,h⟩
 have bW: ∀{id b},bH (dl B (KE B m n c x ids s)).heap id=some b->(id<s.bT/\id≠w/\(∃b',bH (dl B s).heap id=some b')/\(∀j,j<B.K c->id≠r+j)/\fL w id=true)\/(id=s.bT)\/(bH (eR B s.bT (.fr c false pre 1 post)) id=some b)\/(bH (jO B (s.bT+1+B.K c*pre.length) (B.Z c (s.bT+1+B.K c*pre.length) y)) id=some b):=λ{id b}hb=>by
  rcases gU w2 hb with⟨b0,hg,rfl⟩|⟨_,k,b0,hg,hr⟩
  ·rcases key hg with⟨rfl,_⟩|⟨h,_⟩|⟨h1,h2,h3,h4,h5⟩
   ·refine .inl ⟨QB,λe=>(by subst e;rw[hm]at hw;cases hw),⟨_,dp hm⟩,λj hj e=>?_,iJ w1 hw hm rfl⟩
    obtain⟨z,Lf⟩:=XZ j hj
    have:=hz j z Lf
    rw[<-e,hm]at this
    cases z<;>cases this
   ·exact .inr (.inl h)
   ·exact .inl ⟨h3,h2,⟨_,dp h4⟩,h5,iJ w1 hw h4 rfl⟩
  ·rcases row hg hr with⟨_,h|h⟩|⟨h1,h2⟩
   ·exact .inr (.inr (.inl h))
   ·exact .inr (.inr (.inr h))
   ·obtain⟨f1,f2⟩:=ff hr
    refine .inl ⟨JR h2 hr,λe=>?_,⟨_,jo w1 h2 hr⟩,λj hj e=>?_,?_⟩
    ·subst e
     rw[iJ w1 h2 hw f1]at f2;cases f2
    ·obtain⟨z,Lf⟩:=XZ j hj
     have:=iJ w1 h2 (hz j z Lf) f1
     rw[<-e,f2]at this;cases this
    ·cases ho:fL w id with
     |true=>rfl
     |false=>exact absurd (lX w1 hw h2 rfl f1 ho f2).symm h1
 refine⟨?_,λid hl=>dD hl,?_,?_,by show s.bT<=s.bT+vr+1;omega,?_⟩
 ·intro id b hb
  rcases gU w2 hb with⟨b0,hg,rfl⟩|⟨_,k,b0,hg,hr⟩
  ·rcases key hg with⟨rfl,rfl⟩|⟨rfl,rfl⟩|⟨h1,h2,h3,h4,h5⟩
   ·refine⟨fx B (.fm n c w false pre [B.Y c r y] post),?_,.inr ?_⟩
    ·rw[dD QB];exact dp hm
    ·simp only[fx,dY,Kz,Ui,dj,rN,iK]
     rw[hL,xa]
     refine .cells (.p ?_ (.k Jn.1 ?_))
     ·exact re λid x0 h=>⟨X0 (As.2 (.inl (kw h))),DQ (kw h)⟩
     ·exact re λid x0 h=>by
       obtain⟨b',h'⟩:=qp h
       exact⟨X0 (As.2 (.inl h')),DQ h'⟩
   ·refine⟨fx B (.fr c false pre 1 post),?_,.inl rfl⟩
    rw[dM (by omega),dM (by omega),Qs,Dl]
    exact dp hw
   ·refine⟨_,?_,.inl rfl⟩
    rw[dD h3];exact dp h4
  ·rcases row hg hr with⟨_,h|h⟩|⟨h1,h2⟩
   ·obtain⟨x',q1,q2⟩:=ub (w':=w) (ok:=gw (dl B s).bT (dl B (KE B m n c x ids s)).heap) (π:=λid=>if id<s.bT then id else if s.bT+1+B.K c*pre.length<=id/\id<s.bT+1+B.K c*pre.length+B.K c then r+(id-(s.bT+1+B.K c*pre.length))else w+(id-s.bT)) (λid x0 h=>⟨X0 (As.2 (.inl h)),DQ h⟩) id b h
    exact⟨x',by rw[DQ h];exact jo w1 hw q1,.inr q2⟩
   ·obtain⟨g1,g2⟩:=jd h
    rw[kY,dD g1]at h
    obtain⟨z,HV,Gl⟩:=Hy.1 h
    obtain⟨z',Lf⟩:=XZ (id-(s.bT+1+B.K c*pre.length)) (by omega)
    refine⟨_,?_,.inr (by rw[<-Gl];exact Jn.2 _ _ _ HV Lf)⟩
    rw[dM (by omega),dD (by omega),<-toTB_er]
    exact dp (hz _ _ Lf)
   ·exact⟨b,by rw[dD (JR h2 hr)];exact jo w1 h2 hr,.inl rfl⟩
 ·intro id fG b b' hb nq e
  have X1: ∀j,j<B.K c->r+j<s.bT/\r+j≠w/\fL w (r+j)=true:=λj hj=>by
   obtain⟨z,Lf⟩:=XZ j hj
   have:=hz j z Lf
   refine⟨low this,λe=>?_,iJ w1 hw this rfl⟩
   rw[e,hw]at this
   cases z<;>cases this
  rcases bW hb with⟨a1,a2,_,a3,a4⟩|h|h|h<;>rcases bW nq with⟨c1,c2,_,c3,c4⟩|h'|h'|h'
  ·rw[dD a1,dD c1]at e;exact e
  ·rw[dD a1,h',dM (by omega),dM (by omega)]at e;omega
  ·rw[dD a1,DQ h']at e
   obtain⟨o1,o2,_⟩:=side h'
   rw[e,lA (by omega) (by omega)]at a4;cases a4
  ·obtain⟨g1,g2⟩:=jd h'
   rw[dD a1,dM (by omega),dD (by omega)]at e
   exact absurd e (a3 _ (by omega))
  ·rw[dD c1,h,dM (by omega),dM (by omega)]at e;omega
  ·omega
  ·rw[DQ h',h,dM (by omega),dM (by omega)]at e
   obtain⟨o1,_⟩:=side h'
   omega
  ·obtain⟨g1,g2⟩:=jd h'
   rw[h,dM (by omega),dM (by omega),dM (by omega),dD (by omega)]at e
   exact absurd e.symm (by rw[Qs,Dl];exact(X1 _ (by omega)).2.1)
  ·rw[dD c1,DQ h]at e
   obtain⟨o1,o2,_⟩:=side h
   rw[<-e,lA (by omega) (by omega)]at c4;cases c4
  ·rw[DQ h,h',dM (by omega),dM (by omega)]at e
   obtain⟨o1,_⟩:=side h
   omega
  ·rw[DQ h,DQ h']at e
   obtain⟨o1,_⟩:=side h
   obtain⟨o2,_⟩:=side h'
   omega
  ·obtain⟨g1,g2⟩:=jd h'
   rw[DQ h,dM (by omega),dD (by omega)]at e
   obtain⟨o1,o2,_⟩:=side h
   have:=(X1 (fG-(s.bT+1+B.K c*pre.length)) (by omega)).2.2
   rw[<-e,lA (by omega) (by omega)]at this;cases this
  ·obtain⟨g1,g2⟩:=jd h
   rw[dD c1,dM (by omega),dD (by omega)]at e
   exact absurd e.symm (c3 _ (by omega))
  ·obtain⟨g1,g2⟩:=jd h
   rw[h',dM (by omega),dD (by omega),dM (by omega),dM (by omega)]at e
   exact absurd e (by rw[Qs,Dl];exact(X1 _ (by omega)).2.1)
  ·obtain⟨g1,g2⟩:=jd h
   rw[DQ h',dM (by omega),dD (by omega)]at e
   obtain⟨o1,o2,_⟩:=side h'
   have:=(X1 (id-(s.bT+1+B.K c*pre.length)) (by omega)).2.2
   rw[e,lA (by omega) (by omega)]at this;cases this
  ·obtain⟨g1,g2⟩:=jd h
   obtain⟨g3,g4⟩:=jd h'
   rw[dM (by omega),dD (by omega),dM (by omega),dD (by omega)]at e
   omega
 ·intro id b hb
  show id<s.bT+vr+1
  rcases bW hb with⟨a1,_⟩|h|h|h
  ·omega
  ·omega
  ·have:=(side h).2.1;omega
  ·have:=(fe (oX (As.2 (.inr h)))).2;omega
 ·intro id hd
  rcases gU w1 hd with⟨b,hg,hb⟩|⟨hn,k,b,hg,hr⟩
  ·have:=nY d3 id (by rw[fX,hg,gy,<-hb])
   simp only[dl]
   rw[cZ,this]
  ·exact(nZ hr).elim
theorem rh{α:Type}{x:List α}{i:Int}{y:α}(h:ix x i=some y):x=x.take i.toNat++y::x.drop (i.toNat+1)/\(x.take i.toNat).length=i.toNat:=by
 obtain⟨_,hy⟩:=Pd h
 obtain⟨hl,e⟩:=fP.1 hy
 refine⟨?_,by rw[DB];omega⟩
 have:=Qt i.toNat x
 rw[YY hl,e]at this
 exact this.symm
theorem L3{α:Type}{x:List α}{i:Int}{y z:α}(h:ix x i=some y):x.set i.toNat z=x.take i.toNat++z::x.drop (i.toNat+1):=by
 obtain⟨_,hy⟩:=Pd h
 rw[List.set_eq_take_append_cons_drop,dD (fP.1 hy).1]
theorem D5{α:Type}{x:List α}{i:Int}{y:α}(h:ix x i=some y)(hc:i.toNat<cT):i.toNat=(x.take i.toNat).length/\i.toNat<=cT:=⟨(rh h).2.symm,Qw hc⟩
theorem V5{c n w i:Nat}{x:List (B.S c)}{y:B.S c}(h:x=x.take i++y::x.drop (i+1))(hl:(x.take i).length=i):fx B (.fm n c w false x [] [])=fx B (.fm n c w false (x.take i) [] (y::x.drop (i+1))):=by
 have:iK B c w 0 x=iK B c w 0 (x.take i)++iK B c w i (y::x.drop (i+1)):=by
  conv=>lhs;rw[h,yz,hl,BU]
 simp only[fx,dY,dj,Kz,Dl,rN,iK,xa,this,hl]
theorem V6{c w i:Nat}{x:List (B.S c)}{y:B.S c}(h:x=x.take i++y::x.drop (i+1))(hl:(x.take i).length=i):eR B w (.fr c false x 0 [])=eR B w (.fr c false (x.take i) 0 (y::x.drop (i+1))):=by
 have:gx B c w 0 x=gx B c w 0 (x.take i)++gx B c w i (y::x.drop (i+1)):=by
  conv=>lhs;rw[h,yA,hl,BU]
 simp only[eR,dj,Dl,gx,xa,this,hl]
end
theorem Bl{α:Type}{x:List α}{i:Int}{y:α}(h:ix x i=some y)(hc:i.toNat<cT):(x.take i.toNat).length<cT:=by rw[(rh h).2];exact hc
theorem ug{α:Type}{x:List α}{i:Int}{y:α}(h:ix x i=some y):0<=i/\i<(x.length:Int):=by
 have h1:=ZX h
 have h0:=(Pd h).1
 omega
theorem QY{α:Type}{l:List α}{y:α}(h:ix l 0=some y):l=y::l.drop 1:=by
 have:=(Pd h).2
 cases l with
 |nil=>simp at this
 |cons a r=>simp at this;subst this;rfl
section
variable {c n w:Nat} {cl:Bool} {pre post x l:List (B.S c)} {y:B.S c}
theorem V7(h:ix l 0=some y):fx B (.fm n c w cl pre [] l)=fx B (.fm n c w cl pre [] (y::l.drop 1)):=by rw[<-QY h]
theorem V8(h:ix l 0=some y):eR B w (.fr c cl pre 0 l)=eR B w (.fr c cl pre 0 (y::l.drop 1)):=by rw[<-QY h]
theorem clM:fx B (.fm n c w false x [] [])=fx B (.fm n c w true [] [] x):=by simp[fx,iK,dY]
theorem clW:eR B w (.fr c false x 0 [])=eR B w (.fr c true [] 0 x):=by simp[eR,gx]
theorem shM{v:TV B.S}(h:B.E c y=v.er B.E):fx B (.fm n c w true pre [v] post)=fx B (.fm n c w true (pre++[y]) [] post):=by simp[fx,dY,h]
theorem shW:eR B w (.fr c true pre 1 post)=eR B w (.fr c true (pre++[y]) 0 post):=by simp[eR]
theorem Z4{k:Nat}(h:post=[]/\k=pre.length):fx B (.fm n c w true pre [] post)=fx B (.ls n c pre k h.2):=by
 obtain⟨h,_⟩:=h
 subst h
 simp[fx,iK,dY]
end
theorem HX{α:Type}{E:α->AV}(hE: ∀x y,E x=E y->x=y): ∀l m:List α,l.map E=m.map E->l=m
 | [],[],_=>rfl
 | [],_::_,h=>by cases h
 |_::_,[],h=>by cases h
 |a::x,b::y,h=>by
  simp only[xb,List.cons.injEq]at h
  rw[hE _ _ h.1,HX hE x y h.2]
section
variable {P:Program} {N:Nat} {ρ:Option Nat} {Q:Exit->Env->St->Prop} {M:TM B.S}
theorem Gp{o:TO B.S}{k:List Fr}{bI:dK B.S}{S2 s:dP B.S}(ho:ko o=true)(h:Gm N ρ s.bT (eJ B bI) (dl B S2) (eJ B bI) (dl B s))(hk:kD B P N ρ Q ⟨o,k,bI,S2⟩):kD B P N ρ Q ⟨o,k,bI,s⟩:=by
 cases o<;>simp only[ko]at ho<;>first|(cases ho;done)|skip
 ·have hk:wW P N ρ Q ⟨.run _,k,eJ B bI,dl B S2⟩:=hk
  exact sR (bR:=s.bT) (eF _) h hk
 ·have hk:wW P N ρ Q ⟨.out _,k,eJ B bI,dl B S2⟩:=hk
  exact sR (bR:=s.bT) (eF _) h hk
theorem Cm{π:Nat->Nat}{o:TO B.S}{k:List Fr}{bI:dK B.S}{S2 s:dP B.S}(ho:ko o=true)(h:Ar π (dl B S2) (dl B s))(hk:kD B P N ρ Q ⟨o,k,bI,S2⟩):kD B P N ρ Q ⟨o,k,bI,s⟩:=Gp ho (D4 h) hk
def D6{S:Nat->Type}(M:TM S)(s:dP S):TM S:=⟨M.o,M.k,M.bI,s⟩
theorem V9(fN m w n c:Nat)(ids:List Nat){x:List (B.S c)}{i:Int}{y:B.S c}(h:ix x i=some y)(hc:i.toNat<cT)
  (k:RT B P N ρ Q (D6 (toReg B P N fN M).1 (Gn B m w n c false (x.take i.toNat) y (x.drop (i.toNat+1)) ids (toReg B P N fN M).1.s)))
  (hx:(ko (toReg B P N fN M).1.o,bH (toReg B P N fN M).1.s.heap m,bH (toReg B P N fN M).1.s.heap w,XY B m w ids (Gn B m w n c false (x.take i.toNat) y (x.drop (i.toNat+1)) ids (toReg B P N fN M).1.s) (toReg B P N fN M).1.s,(toReg B P N fN M).2.map Prod.fst)=
   (true,some (.fm n c w false x [] []),some (.fr c false x 0 []),true,(toReg B P N fN M).2.map Prod.snd):=by kernel_rfl):RT B P N ρ Q M:=by
 simp only[Prod.mk.injEq]at hx
 obtain⟨h1,h2,h3,h4,h5⟩:=hx
 refine⟨kE (dZ h5) ?_⟩
 have k:=k.v
 unfold D6 at k
 show kD B P N ρ Q (toReg B P N fN M).1
 obtain⟨e1,e2⟩:=rh h
 exact Cm h1 (Bj h2 (V5 e1 e2) rfl h3 rfl (V6 e1 e2) (by rw[e2];exact hc) h4) k
theorem tOh(fN m w n c:Nat)(ids:List Nat)(cl:Bool)(pre:List (B.S c))(y:B.S c)(post:List (B.S c))(hc:pre.length<cT)
  (k:RT B P N ρ Q (D6 (toReg B P N fN M).1 (Gn B m w n c cl pre y post ids (toReg B P N fN M).1.s)))
  (hx:(ko (toReg B P N fN M).1.o,bH (toReg B P N fN M).1.s.heap m,bH (toReg B P N fN M).1.s.heap w,XY B m w ids (Gn B m w n c cl pre y post ids (toReg B P N fN M).1.s) (toReg B P N fN M).1.s,(toReg B P N fN M).2.map Prod.fst)=
   (true,some (.fm n c w cl pre [] (y::post)),some (.fr c cl pre 0 (y::post)),true,(toReg B P N fN M).2.map Prod.snd):=by kernel_rfl):RT B P N ρ Q M:=by
 simp only[Prod.mk.injEq]at hx
 obtain⟨h1,h2,h3,h4,h5⟩:=hx
 refine⟨kE (dZ h5) ?_⟩
 have k:=k.v
 unfold D6 at k
 show kD B P N ρ Q (toReg B P N fN M).1
 exact Cm h1 (Bj h2 rfl rfl h3 rfl rfl hc h4) k
def L4{S:Nat->Type}(h:List (Nat×TB S)):List (Nat×TB S)->List (Option (TB S))
 | []=>[]
 |p::r=>bH h p.1::L4 h r
theorem Cn{h:List (Nat×TB B.S)}: ∀{l:List (Nat×TB B.S)},L4 h l=l.map (λp=>some p.2)-> ∀p∈l,bH h p.1=some p.2
 | [],_,p,hp=>by simp at hp
 |a::r,e,p,hp=>by
  simp only[L4,xb,List.cons.injEq]at e
  simp only[mU]at hp
  rcases hp with rfl|hp
  ·exact e.1
  ·exact Cn e.2 p hp
theorem Ou(fN m w n c r:Nat)(ids:List Nat)(pre:List (B.S c))(y:B.S c)(post x:List (B.S c))(hc:pre.length<cT)(he:x=pre++y::post)
  (k:RT B P N ρ Q (D6 (toReg B P N fN M).1 (KE B m n c x ids (toReg B P N fN M).1.s)))
  (hx:(ko (toReg B P N fN M).1.o,bH (toReg B P N fN M).1.s.heap m,bH (toReg B P N fN M).1.s.heap w,L4 (toReg B P N fN M).1.s.heap (qw r (B.Z c r y)),Z3 B m w r (B.K c) ids (KE B m n c x ids (toReg B P N fN M).1.s) (toReg B P N fN M).1.s,(toReg B P N fN M).2.map Prod.fst)=
   (true,some (.fm n c w false pre [B.Y c r y] post),some (.fr c false pre 1 post),(qw r (B.Z c r y)).map (λp=>some p.2),true,(toReg B P N fN M).2.map Prod.snd):=by kernel_rfl):RT B P N ρ Q M:=by
 simp only[Prod.mk.injEq]at hx
 obtain⟨h1,h2,h3,h4,h5,h6⟩:=hx
 refine⟨kE (dZ h6) ?_⟩
 have k:=k.v
 unfold D6 at k
 show kD B P N ρ Q (toReg B P N fN M).1
 exact Cm h1 (JS he h2 h3 (Cn h4) hc h5) k
end
theorem uh{id:Nat}: ∀{k:Nat}{h:List (Nat×gD)}{r:Nat},bH (Gq r k h) id=if r<=id/\id<r+k then none else bH h id
 |0,h,r=>by rw[dM (by omega)];rfl
 |k+1,h,r=>by
  simp only[Gq]
  rw[uh (k:=k),fH]
  by_cases h1:r<=id/\id<r+k
  ·rw[dD h1,dD (by omega)]
  ·rw[dM h1]
   by_cases h2:r+k=id
   ·rw[dD h2,dD (by omega)]
   ·rw[dM h2,dM (by omega)]
theorem L5{A R:List AV}{e e':AV}(hl:e'.cells.length=e.cells.length){k:Nat}{x':AV}(h:(dn (A++e'::R))[k]? =some x'):
  (∃(j:Nat)(x:AV),e'.cells[j]? =some x'/\e.cells[j]? =some x/\(dn (A++e::R))[k]? =some x)\/(dn (A++e::R))[k]? =some x':=by
 rw[dE,ji]at h |-
 by_cases h1:k<(dn A).length
 ·right
  rw[np h1]at h |-;exact h
 ·rw[pG (by omega)]at h |-
  by_cases h2:k-(dn A).length<e.cells.length
  ·left
   rw[np (by omega)]at h |-
   exact⟨k-(dn A).length,_,h,dH h2,dH h2⟩
  ·right
   rw[pG (by omega)]at h |-
   rw[hl]at h;exact h
section
variable {G G1:cg} {s s1:St} {w:World}
theorem eL.swap(h:eL G1 s1 w){m n:Nat}{es es':List AV}(hg:bH s1.heap m=some (.cells n es))(hn:es=[]->es'=[])(hh: ∀r o,G1.own m=some r->w.heap[r.block]? =some o->Holds G1 r (.cells n es') o):
  eL G1 ⟨eg s1.heap m (.cells n es'),s1.bT⟩ w:=by
 have gs: ∀{i b},bH (eg s1.heap m (.cells n es')) i=some b->(i=m/\b=.cells n es')\/(i≠m/\bH s1.heap i=some b):=λ{i b}hi=>by
  rw[eO]at hi
  split at hi
  ·cases hi;exact .inl ⟨by omega,rfl⟩
  ·exact .inr ⟨by omega,hi⟩
 have Ol: ∀{i b},bH (eg s1.heap m (.cells n es')) i=some b-> ∃b0,bH s1.heap i=some b0:=λ{i b}hi=>by
  rcases gs hi with⟨rfl,_⟩|⟨_,hb⟩
  ·exact⟨_,hg⟩
  ·exact⟨_,hb⟩
 refine⟨h.gP,λi b hi=>?_,λi i' b b' r r' h1 h2 o1 o2 eV=>?_,λi b r o hi ho=>?_,h.ct,λi b hi=>?_⟩
 ·rcases gs hi with⟨rfl,rfl⟩|⟨_,hb⟩
  ·rcases h.heap _ _ hg with⟨r,o,e1,e2,_⟩|⟨e1,sz,h0,e2⟩
   ·exact .inl ⟨r,o,e1,e2,hh r o e1 e2⟩
   ·cases e2
    exact .inr ⟨e1,n,h0,by rw[hn rfl]⟩
  ·exact h.heap i b hb
 ·obtain⟨b1,g1⟩:=Ol h1
  obtain⟨b2,g2⟩:=Ol h2
  exact h.apart i i' b1 b2 r r' g1 g2 o1 o2 eV
 ·obtain⟨b1,g1⟩:=Ol hi
  exact h.clear i b1 r o g1 ho
 ·obtain⟨b1,g1⟩:=Ol hi
  exact h.lt i b1 g1
theorem Ext.swap(h:Ext G s w G1 s1 w){m n:Nat}{es es':List AV}(hg:bH s1.heap m=some (.cells n es)):Ext G s w G1 ⟨eg s1.heap m (.cells n es'),s1.bT⟩ w:=
 ⟨h.le,h.os,h.tape,h.output,h.size,h.keep,h.jA,h.iW,λid b hi=>by
  simp only at hi
  rw[eO]at hi
  split at hi
  ·rename_i e;subst e;exact h.ids _ _ hg
  ·exact h.ids id b hi,h.bT,λid hd=>by
  have:=h.gr id hd
  rw[eO,dM (λe=>by subst e;rw[hg]at this;cases this)];exact this,h.stay,h.drawn⟩
end
theorem QZ{c m n v:Nat}(hk:0<B.K c)(Dt:fL v m=true): ∀(post pre:List (B.S c))(s:St)(G:cg)(w:World),pre.length+post.length<=cT->eL G s w->
  bH s.heap m=some (.cells n (pre.map (B.E c)++iK B c v pre.length post))->(∀id x,bH (gx B c v pre.length post) id=some x->bH s.heap id=some x)->
  ∃G' s',eL G' s' w/\Ext G s w G' s' w/\bH s'.heap m=some (.cells n ((pre++post).map (B.E c)))/\(∀id b,id≠m->fL v id=true->bH s.heap id=some b->bH s'.heap id=some b)/\s'.bT=s.bT
 | [],pre,s,G,w,_,hs,hm,_=>⟨G,s,hs,.refl _ _ _,by simpa[iK]using hm,λ_ _ _ _ h=>h,rfl⟩
 |y::r,pre,s,G,w,hl,hs,hm,hr=>by
  simp only[oG]at hl
  have hc:pre.length<cT:=by omega
  rw[kZ hc]at hm
  rw[mw hc]at hr
  have hF:=B.hF c
  have hz: ∀(j:Nat)(z:ZB B.S),(B.Z c (v+1+B.K c*pre.length) y)[j]? =some z->bH s.heap (v+1+B.K c*pre.length+j)=some (L2 (FI B.E z)):=λj z hz=>by
   refine hr _ _ ?_
   rw[cZ,kY,dD (by omega),show v+1+B.K c*pre.length+j-(v+1+B.K c*pre.length)=j from by omega,hz]
   rfl
  obtain⟨G1,s1,x1,hv⟩:=hF.hf (v+1+B.K c*pre.length) y s G w hs hz
  have nin: ∀{id},fL v id=true-> ¬(v+1+B.K c*pre.length<=id/\id<v+1+B.K c*pre.length+B.K c):=λ{id}ho hq=>by
   have hk4:=hF.hk
   have:B.K c*pre.length<=4*4095:=Nat.mul_le_mul hk4 (by unfold cT at hc;omega)
   rw[lA (by omega) (by unfold vr;omega)]at ho;cases ho
  have Bm:bH (Gq (v+1+B.K c*pre.length) (B.K c) s.heap) m=some (.cells n (pre.map (B.E c)++(B.Y c (v+1+B.K c*pre.length) y).er B.E::iK B c v (pre.length+1) r)):=by
   rw[uh,dM (nin Dt)];exact hm
  have dA:(B.E c y).cells.length=((B.Y c (v+1+B.K c*pre.length) y).er B.E).cells.length:=by rw[B.hw,hF.hw]
  have Pg:=s1.swap (es':=(pre++[y]).map (B.E c)++iK B c v (pre.length+1) r) Bm (λe=>by simp at e) λrg o ho hw=>by
   rcases hs.heap m _ hm with⟨r',o',e1,e2,e3⟩|⟨e1,sz,_,e2⟩
   ·have:=x1.le.own _ _ e1
    rw[ho]at this;cases this
    rw[hw]at e2;cases e2
    cases e3 with
    |cells _ _ cs e eC ee h0 iM jz eZ hV=>
     refine .cells _ _ cs e eC ee h0 (λx hx=>?_) (λx hx=>?_) (by simpa using eZ) λk x hx=>?_
     ·simp only[Dm,xb,Qu,DC,wI,rN,lr,mU]at hx
      rcases hx with h|rfl|h
      ·exact iM x (by simp[h])
      ·rw[dA];exact iM _ (by simp)
      ·exact iM x (by simp[h])
     ·simp only[Dm,xb,Qu,DC,wI,rN]at hx
      rw[dE,ji]at hx
      simp only[lr]at hx
      rcases hx with h|h|h
      ·exact jz x (by rw[dE];simp[h])
      ·exact hF.hs hk y x h
      ·exact jz x (by rw[dE,ji];simp[h])
     ·simp only[Dm,xb,Qu,DC,wI,rN]at hx
      rcases L5 dA hx with⟨j,x0,q1,q2,q3⟩|q
      ·obtain⟨u,p1,p2⟩:=hV k x0 q3
       exact⟨u,p1,hv j x0 x u q2 q1 p2⟩
      ·obtain⟨u,p1,p2⟩:=hV k x q
       exact⟨u,p1,p2.mono x1.le⟩
   ·exfalso
    have:=fA (λb=>match b with|gD.cells _ l=>l.length|_=>0) e2
    simp at this
  have x2:=x1.swap (es':=(pre++[y]).map (B.E c)++iK B c v (pre.length+1) r) Bm
  have eV: ∀{id x},bH (gx B c v (pre.length+1) r) id=some x->id≠m/\ ¬(v+1+B.K c*pre.length<=id/\id<v+1+B.K c*pre.length+B.K c):=λ{id x}h=>by
   refine⟨λe=>?_,λhq=>?_⟩
   ·subst e
    rw[oX h]at Dt;cases Dt
   ·have:=(oY h).1
    rw[U5]at this
    omega
  obtain⟨G',s',a1,a2,a3,a4,a5⟩:=QZ hk Dt r (pre++[y]) _ G1 w (by simp only[jW,Ui];omega) Pg (by
   rw[eO,dD rfl,jW,Ui]) λid x h=>by
   rw[jW,Ui]at h
   obtain⟨n1,n2⟩:=eV h
   simp only
   rw[eO,dM (λe=>n1 e.symm),uh,dM n2]
   refine hr id x ?_
   rw[cZ]
   split
   ·rename_i z hq
    exact absurd (jd hq) n2
   ·exact h
  refine⟨G',s',a1,x2.trans hs a2,by rw[a3];simp,λid b h1 h2 h3=>?_,a5⟩
  refine a4 id b h1 h2 ?_
  simp only
  rw[eO,dM (λe=>h1 e.symm),uh,dM (nin h2)]
  exact h3
section
variable {P:Program} {N:Nat} {ρ:Option Nat} {Q:Exit->Env->St->Prop} {M:TM B.S}
def Sx(m n c:Nat)(x:List (B.S c))(ids:List Nat)(s:dP B.S):dP B.S:=⟨(m,.lz n c x)::kU ids s.heap,s.bT⟩
def faC(B:jc)(m w c:Nat)(ids:List Nat)(S2 s:dP B.S):Bool:=
 pN s.heap&&pN S2.heap&&!(jE m ids)&&!(jE w ids)&&fL w m&&Nat.blt 0 (B.K c)&&Bf (kC B s.heap) (kC B S2.heap)
theorem Z5(fN m w n c:Nat)(ids:List Nat)(x:List (B.S c))(hl:x.length<=cT)
  (k:RT B P N ρ Q (D6 (toReg B P N fN M).1 (Sx m n c x ids (toReg B P N fN M).1.s)))
  (hx:(ko (toReg B P N fN M).1.o,bH (toReg B P N fN M).1.s.heap m,bH (toReg B P N fN M).1.s.heap w,faC B m w c ids (Sx m n c x ids (toReg B P N fN M).1.s) (toReg B P N fN M).1.s,(toReg B P N fN M).2.map Prod.fst)=
   (true,some (.fm n c w false x [] []),some (.fr c false x 0 []),true,(toReg B P N fN M).2.map Prod.snd):=by kernel_rfl):RT B P N ρ Q M:=by
 simp only[Prod.mk.injEq]at hx
 obtain⟨h1,h2,h3,h4,h5⟩:=hx
 refine⟨kE (dZ h5) ?_⟩
 have k:=k.v
 unfold D6 at k
 show kD B P N ρ Q (toReg B P N fN M).1
 generalize(toReg B P N fN M).1=g at *
 obtain⟨o,kk,bI,s⟩:=g
 simp only at h1 h2 h3 h4 k
 refine Gp h1 ?_ k
 simp only[faC,fi,p9,rO]at h4
 obtain⟨⟨⟨⟨⟨⟨w1,w2⟩,d1⟩,d2⟩,d3⟩,hk⟩,d4⟩:=h4
 intro G0 s0 w0 G w' a hb h0 hx hn
 have hm:=dp h2
 simp only[fx,dY,dj,Kz,rN,iK,xa]at hm
 obtain⟨G',s',a1,a2,a3,a4,a5⟩:=QZ hk d3 x [] (dl B s) G w' (by simpa using hl) hn.iQ (by simpa using hm) λid b hb=>jo w1 h3 (by simpa[eR,gx]using hb)
 have oR: ∀id b,bH (dl B (Sx m n c x ids s)).heap id=some b->bH s'.heap id=some b:=λid b hb=>by
  have kk: ∀{i c'},bH (Sx m n c x ids s).heap i=some c'->(i=m/\c'=.lz n c x)\/(i≠m/\i≠w/\bH s.heap i=some c'):=λ{i c'}hg=>by
   simp only[Sx,cM]at hg
   split at hg
   ·rename_i e;cases hg;exact .inl ⟨e.symm,rfl⟩
   ·rename_i e
    have eZ:=ue hg
    exact .inr ⟨λe'=>e e'.symm,λe'=>(by rw[e',d2]at eZ;cases eZ),jL hg⟩
  rcases gU w2 hb with⟨b0,hg,rfl⟩|⟨_,k,b0,hg,hr⟩
  ·rcases kk hg with⟨rfl,rfl⟩|⟨e1,e2,e3⟩
   ·rw[a3];rfl
   ·exact a4 id _ e1 (iJ w1 h3 e3 rfl) (dp e3)
  ·obtain⟨f1,f2⟩:=ff hr
   rcases kk hg with⟨rfl,rfl⟩|⟨e1,e2,e3⟩
   ·cases f1
   ·have ho:fL w id=true:=by
     cases ho:fL w id with
     |true=>rfl
     |false=>exact absurd (lX w1 h3 e3 rfl f1 ho f2).symm e2
    refine a4 id b (λe=>?_) ho (jo w1 e3 hr)
    subst e
    rw[iJ w1 e3 h2 f1]at f2;cases f2
 have Oj: ∀id,bH s'.heap id=some .gr->bH (dl B (Sx m n c x ids s)).heap id=some .gr:=λid hd=>by
  rcases a2.ids id _ hd with⟨b0,DE⟩|KC
  ·by_cases e:id=m
   ·subst e;rw[a3]at hd;cases hd
   ·by_cases ho:fL w id=true
    ·have:=a4 id b0 e ho DE
     rw[hd]at this;cases this
     rcases gU w1 DE with⟨b,hg,hb⟩|⟨_,k,b,hg,hr⟩
     ·have:=nY d4 id (by rw[fX,hg,gy,<-hb])
      simp only[dl]
      rw[cZ,this]
     ·exact(nZ hr).elim
    ·exfalso
     rcases a1.heap id _ hd with⟨r,o,e1,e2,e3⟩|⟨_,_,_,e2⟩
     ·cases e3
      rcases hn.iQ.heap id _ DE with⟨r',o',q1,q2,q3⟩|⟨q1,_,_,q2⟩
      ·have:=a2.le.own _ _ q1
       rw[e1]at this;cases this
       rw[e2]at q2;cases q2
       cases q3
       rcases gU w1 DE with⟨b,hg,hb⟩|⟨_,k,b,hg,hr⟩
       ·exact ho (iJ w1 h3 hg rfl)
       ·exact nZ hr
      ·rw[a2.stay id (hn.iQ.lt _ _ DE) q1]at e1;cases e1
     ·cases e2
  ·have:=a1.lt id _ hd
   rw[a5]at this
   have h9:(dl B s).bT=s.bT:=rfl
   omega
 have Wa:Ext G' s' w' G' (dl B (Sx m n c x ids s)) w':=Ext.drop oR (by rw[a5];exact eF _) Oj
 have QX:=a2.trans hn.iQ Wa
 exact⟨G',⟨a1.drop oR (by rw[a5];exact eF _),hn.bI.mono a2.le,hn.size,hn.mg.ext QX,hn.known.le a2.le⟩,hx.trans h0 QX⟩
end
end
end Go.Am
section
namespace Go.Am
open Go.RowKit
variable {S:Nat->Type} {E:(c:Nat)->S c->AV} {W K:Nat->Nat} {Y:(c:Nat)->Nat->S c->TV S} {Z:(c:Nat)->Nat->S c->List (ZB S)} {c:Nat}
theorem fj(hK:K c=0)(hZ: ∀r y,Z c r y=[])(hY: ∀r y,(Y c r y).er E=E c y)(hw: ∀y,(E c y).cells.length=W c)(Gr: ∀y,(E c y).dy=true):Bn E W K Y Z c where
 hk:=by rw[hK];exact AK _
 hz:=λr y=>by rw[hZ,hK];rfl
 hw:=λr y=>by rw[hY];exact hw y
 hs:=λh=>by rw[hK]at h;cases h
 hf:=λr y s G w hs _=>⟨G,by rw[hK];exact hs,by rw[hK];exact .refl _ _ _,λj x x' v h1 h2 hv=>by
  rw[hY]at h1
  rw[h1]at h2;cases h2;exact hv⟩
 hi:=λh=>by rw[hK]at h;cases h
 hr:=λok π r r' y _=>⟨by rw[hY,hY];exact .c (Gr y),λj b b' h=>by rw[hZ]at h;simp at h⟩
theorem Sy{d n:Nat}(L:S c->List (S d))(hK:K c=1)(hW:W c=1)(hZ: ∀r y,Z c r y=[.l n d (L y)])(hY: ∀r y,(Y c r y).er E=.ms r 0 (L y).length)(hE: ∀y,E c y=.sl false ((L y).map (E d)))(hd: ∀z,(E d z).dy=true)
  (hi: ∀x y,E c x=E c y->x=y):Bn E W K Y Z c where
 hk:=by rw[hK];decide
 hz:=λr y=>by rw[hZ,hK];rfl
 hw:=λr y=>by rw[hY,hW];rfl
 hs:=λ_ y x hx=>by
  rw[hE]at hx
  simp[AV.cells]at hx
  subst hx;rfl
 hf:=λr y s G w hs hz=>by
  have h0:=hz 0 (.l n d (L y)) (by rw[hZ];rfl)
  obtain⟨G',a1,a2,a3,_⟩:=kg hs (bL:=0) (len:=0) h0 (AK _)
  rw[hK]
  refine⟨G',a1,a2,λj x x' v h1 h2 hv=>?_⟩
  rw[hY]at h1
  rw[hE]at h2
  cases j with
  |succ j=>simp[AV.cells]at h1
  |zero=>
   simp[AV.cells]at h1 h2
   subst h1;subst h2
   have:=a3 0 (L y).length v (by simp[FI]) hv
   simpa[FI,sG]using this
 hi:=λ_=>hi
 hr:=λok π r r' y h=>by
  obtain⟨h1,h2⟩:=h 0 (by rw[hK];decide)
  refine⟨by rw[hY,hY];exact .ms h1 h2,λj b b' e1 e2=>?_⟩
  rw[hZ]at e1 e2
  cases j with
  |succ j=>simp at e1
  |zero=>
   simp at e1 e2
   subst e1;subst e2
   refine .cells (.r (ep.2 λx hx=>?_))
   obtain⟨z,_,rfl⟩:=jJ.1 hx
   exact hd z
theorem Sz{d n p:Nat}(L:S c->List (S d))(a b:S c->List AV)(hp: ∀y,(a y).length=p)(hK:K c=1)(hW: ∀y,(a y).length+1+(b y).length=W c)(hZ: ∀r y,Z c r y=[.l n d (L y)])(hY: ∀r y,(Y c r y).er E=.agg (a y++ .ms r 0 (L y).length::b y))
  (hE: ∀y,E c y=.agg (a y++ .sl false ((L y).map (E d))::b y)) (hd: ∀z,(E d z).dy=true) (JT: ∀y,eQ (a y)=true/\eQ (b y)=true) (jz: ∀y x,x∈a y++b y->x.cX=true) (hi: ∀x y,E c x=E c y->x=y):Bn E W K Y Z c where
 hk:=by rw[hK];decide
 hz:=λr y=>by rw[hZ,hK];rfl
 hw:=λr y=>by rw[hY,<-hW y];simp[AV.cells];omega
 hs:=λ_ y x hx=>by
  rw[hE]at hx
  simp only[AV.cells,lr,mU]at hx
  rcases hx with h|rfl|h
  ·exact jz y x (by simp[h])
  ·rfl
  ·exact jz y x (by simp[h])
 hf:=λr y s G w hs hz=>by
  have h0:=hz 0 (.l n d (L y)) (by rw[hZ];rfl)
  obtain⟨G',a1,a2,a3,_⟩:=kg hs (bL:=0) (len:=0) h0 (AK _)
  rw[hK]
  refine⟨G',a1,a2,λj x x' v h1 h2 hv=>?_⟩
  rw[hY]at h1
  rw[hE]at h2
  simp only[AV.cells]at h1 h2
  by_cases hj:j<(a y).length
  ·rw[np hj]at h1 h2
   rw[h1]at h2;cases h2
   exact hv.mono a2.le
  ·rw[pG (by omega)]at h1 h2
   cases hq:j-(a y).length with
   |zero=>
    rw[hq]at h1 h2
    simp at h1 h2
    subst h1;subst h2
    have:=a3 0 (L y).length v (by simp[FI]) hv
    simpa[FI,sG]using this
   |succ k=>
    rw[hq]at h1 h2
    simp at h1 h2
    rw[h1]at h2;cases h2
    exact hv.mono a2.le
 hi:=λ_=>hi
 hr:=λok π r r' y h=>by
  obtain⟨h1,h2⟩:=h 0 (by rw[hK];decide)
  refine⟨by rw[hY,hY];exact .a (.p (.r (JT y).1) (.k (.ms h1 h2) (.r (JT y).2))),λj b b' e1 e2=>?_⟩
  rw[hZ]at e1 e2
  cases j with
  |succ j=>simp at e1
  |zero=>
   simp at e1 e2
   subst e1;subst e2
   refine .cells (.r (ep.2 λx hx=>?_))
   obtain⟨z,_,rfl⟩:=jJ.1 hx
   exact hd z
theorem SA{d n n2:Nat}(L:S c->List (S d))(T:Nat->S c->TV S)(a b:S c->List AV)(hK:K c=2)(hW:W c=1)(hZ: ∀r y,Z c r y=[.o n [T r y],.l n2 d (L y)])(hY: ∀r y,(Y c r y).er E=.mp r 0 0)(hT: ∀r y,(T r y).er E=.agg (a y++ .ms (r+1) 0 (L y).length::b y))
  (hE: ∀y,E c y=.ip (a y++ .sl false ((L y).map (E d))::b y)) (hd: ∀z,(E d z).dy=true) (JT: ∀y,eQ (a y)=true/\eQ (b y)=true) (hi: ∀x y,E c x=E c y->x=y):Bn E W K Y Z c where
 hk:=by rw[hK];decide
 hz:=λr y=>by rw[hZ,hK];rfl
 hw:=λr y=>by rw[hY,hW];rfl
 hs:=λ_ y x hx=>by
  rw[hE]at hx
  simp[AV.cells]at hx
  subst hx;rfl
 hf:=λr y s G w hs hz=>by
  have h0:=hz 0 (.o n [T r y]) (by rw[hZ];rfl)
  have h1:=hz 1 (.l n2 d (L y)) (by rw[hZ];rfl)
  obtain⟨G1,a1,a2,a3,_⟩:=kg hs (bL:=0) (len:=0) h1 (AK _)
  simp only[Dl,FI,dY,hT,L2]at h0
  have g0:bH (eB s.heap (r+1)) r=some (.cells n [.agg (a y++ .ms (r+1) 0 (L y).length::b y)]):=by
   rw[fH,dM (by omega)];exact h0
  have Pg:=a1.swap (es':=[.agg (a y++ .sl false ((L y).map (E d))::b y)]) g0 (λe=>by cases e) λrg o ho hw=>by
   rcases hs.heap r _ h0 with⟨r',o',e1,e2,e3⟩|⟨e1,sz,_,e2⟩
   ·have:=a2.le.own _ _ e1
    rw[ho]at this;cases this
    rw[hw]at e2;cases e2
    cases e3 with
    |cells _ _ cs e eC ee h0 iM jz eZ hV=>
     refine .cells _ _ cs e eC ee h0 (λx hx=>?_) (λx hx=>?_) (by simpa using eZ) λk x hx=>?_
     ·simp only[RF]at hx
      subst hx
      have:=iM _ (RF.2 rfl)
      simpa[AV.cells]using this
     ·simp only[dn,FQ,U6,xa,AV.cells,lr,mU]at hx jz
      rcases hx with h|rfl|h
      ·exact jz x (.inl h)
      ·rfl
      ·exact jz x (.inr (.inr h))
     ·simp only[dn,FQ,U6,xa,AV.cells]at hx hV
      by_cases hj:k<(a y).length
      ·rw[np hj]at hx
       obtain⟨u,p1,p2⟩:=hV k x (by rw[np hj];exact hx)
       exact⟨u,p1,p2.mono a2.le⟩
      ·rw[pG (by omega)]at hx
       cases hq:k-(a y).length with
       |zero=>
        rw[hq]at hx
        simp at hx
        subst hx
        obtain⟨u,p1,p2⟩:=hV k (.ms (r+1) 0 (L y).length) (by rw[pG (by omega),hq];rfl)
        have:=a3 0 (L y).length u (by simp[FI]) p2
        exact⟨u,p1,by simpa[FI,sG]using this⟩
       |succ j=>
        rw[hq]at hx
        obtain⟨u,p1,p2⟩:=hV k x (by rw[pG (by omega),hq];simpa using hx)
        exact⟨u,p1,p2.mono a2.le⟩
   ·exfalso
    have:=fA (λb=>match b with|gD.cells _ l=>l.length|_=>0) e2
    simp at this
  have x2:=a2.swap (es':=[.agg (a y++ .sl false ((L y).map (E d))::b y)]) g0
  obtain⟨G2,b1,b2,_,b4⟩:=kg Pg (bL:=0) (len:=0) (id:=r) (by rw[eO,dD rfl]) (AK _)
  have ed:eB (eg (eB s.heap (r+1)) r (.cells n [.agg (a y++ .sl false ((L y).map (E d))::b y)])) r=eB (eB s.heap (r+1)) r:=by
   have: ∀{h:List (Nat×gD)}{i:Nat}{x:gD},(∃b,bH h i=some b)->eB (eg h i x) i=eB h i:=by
    intro h i x
    induction h with
    |nil=>rintro⟨b,hb⟩;simp[cV]at hb
    |cons p q ih=>
     rintro⟨b,hb⟩
     obtain⟨k,z⟩:=p
     simp only[cM]at hb
     simp only[tC]
     split
     ·rename_i e;subst e;simp[eB]
     ·rename_i e
      rw[dM e]at hb
      simp only[eB,dM e,ih ⟨b,hb⟩]
   exact this ⟨_,g0⟩
  rw[hK]
  have fin:Gq r 2 s.heap=eB (eB s.heap (r+1)) r:=rfl
  rw[fin]
  rw[ed]at b1 b2
  refine⟨G2,b1,x2.trans hs b2,λj x x' v h1 h2 hv=>?_⟩
  rw[hY]at h1
  rw[hE]at h2
  cases j with
  |succ j=>simp[AV.cells]at h1
  |zero=>
   simp[AV.cells]at h1 h2
   subst h1;subst h2
   exact b4 _ v rfl (hv.mono x2.le)
 hi:=λ_=>hi
 hr:=λok π r r' y h=>by
  obtain⟨h1,h2⟩:=h 0 (by rw[hK];decide)
  obtain⟨h3,h4⟩:=h 1 (by rw[hK];decide)
  refine⟨by rw[hY,hY];exact .mp h1 h2,λj b b' e1 e2=>?_⟩
  rw[hZ]at e1 e2
  cases j with
  |zero=>
   simp at e1 e2
   subst e1;subst e2
   simp only[FI,dY,hT,L2]
   exact .cells (.k (.a (.p (.r (JT y).1) (.k (.ms h3 h4) (.r (JT y).2)))) .z)
  |succ j=>
   cases j with
   |zero=>
    simp at e1 e2
    subst e1;subst e2
    refine .cells (.r (ep.2 λx hx=>?_))
    obtain⟨z,_,rfl⟩:=jJ.1 hx
    exact hd z
   |succ j=>simp at e1
end Go.Am
end
