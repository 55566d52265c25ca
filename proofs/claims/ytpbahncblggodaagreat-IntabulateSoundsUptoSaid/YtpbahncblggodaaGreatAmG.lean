/- The logic AM, G: families of blocks: an element opened, shut, put in; a family that becomes immutable. -/
import Derived.Test.YtpbahncblggodaaGreatAmR
set_option linter.all false
namespace Go.Am
open Go.RowKit
structure zH (π:Nat->Nat) (S2 s:St):Prop where
 heap: ∀id b,bH S2.heap id=some b-> ∃b',bH s.heap (π id)=some b'/\(b=b'\/Ai (gj s.bS S2.heap) π b b')
 low: ∀id,id<s.bS->π id=id
 inj: ∀id fq b b',bH S2.heap id=some b->bH S2.heap fq=some b'->π id=π fq->id=fq
 lt: ∀id b,bH S2.heap id=some b->id<S2.bS
 cb:s.bS<=S2.bS
 gb: ∀id,bH s.heap id=some .gb->bH S2.heap id=some .gb
section
variable {π:Nat->Nat} {S2 s s0:St} {G G0:bZ} {w w0:World}
theorem zH.le(h:zH π S2 s)(hs:eA G s w):rC G (fD s.bS π S2.heap G):=⟨λ_ _ _ h=>h,λid r ho=>by
 have:id<s.bS:=by
  by_cases hq:id<s.bS
  ·exact hq
  ·rw[hs.cq id (by omega)]at ho;cases ho
 simp only[fD,nG this,if_true,h.low id this];exact ho⟩
theorem zH.iE(h:zH π S2 s)(hs:eA G s w):eA (fD s.bS π S2.heap G) S2 w:=by
 refine⟨hs.gD,λid b hg=>?_,λid fq b b' r r' h1 h2 o1 o2 eJ=>?_,λid b r o hg ho=>?_,λid jC=>?_,h.lt⟩
 ·rw[wi hg]
  obtain⟨b',mT,hc⟩:=h.heap id b hg
  rcases hs.heap _ _ mT with⟨r,o,e1,e2,e3⟩|⟨e1,cz,h0,e2⟩
  ·refine .inl ⟨r,o,e1,e2,?_⟩
   rcases hc with rfl|hc
   ·exact e3.mono (h.le hs)
   ·exact hc.holds Aj e3
  ·refine .inr ⟨e1,cz,h0,?_⟩
   rcases hc with rfl|hc
   ·exact e2
   ·subst e2;exact hc.nil
 ·rw[wi h1]at o1
  rw[wi h2]at o2
  obtain⟨c,hc,_⟩:=h.heap id b h1
  obtain⟨c',QM,_⟩:=h.heap fq b' h2
  exact hs.apart _ _ c c' r r' hc QM o1 o2 λe=>eJ (h.inj id fq b b' h1 h2 e)
 ·rw[wi hg]at ho
  obtain⟨c,hc,_⟩:=h.heap id b hg
  exact hs.clear _ c r o hc ho
 ·have hb:=h.cb
  have:gj s.bS S2.heap id=false:=by
   cases hq:gj s.bS S2.heap id with
   |false=>rfl
   |true=>
    simp only[gj,sS,qZ]at hq
    rcases hq with hq|hq
    ·omega
    ·obtain⟨b,hb⟩:=ib.1 hq
     have:=h.lt id b hb
     omega
  simp[fD,this]
theorem zH.ext(h:zH π S2 s)(h0:eA G0 s0 w0)(hx:Ext G0 s0 w0 G s w)(hs:eA G s w)(hb:s0.bS<=s.bS):Ext G0 s0 w0 (fD s.bS π S2.heap G) S2 w:=by
 have lo: ∀id,id<s.bS->(fD s.bS π S2.heap G).own id=G.own id:=λid hl=>by simp only[fD,nG hl,if_true,h.low id hl]
 refine⟨hx.le.trans (h.le hs),hx.os,hx.tape,hx.output,hx.size,hx.keep,hx.jh,λid r ho=>?_,λid b hg=>?_,vS hb h.cb,λid hd=>h.gb id (hx.gb id hd),λid hl ho=>?_,hx.drawn⟩
 ·by_cases hl:id<s.bS
  ·rw[lo id hl]at ho;exact hx.iK id r ho
  ·have CB:gj s.bS S2.heap id=true:=by
    cases hq:gj s.bS S2.heap id with
    |true=>rfl
    |false=>simp[fD,hq]at ho
   have hh:has S2.heap id=true:=by
    simp only[gj,sS,qZ]at CB
    rcases CB with hq|hq
    ·exact absurd hq hl
    ·exact hq
   obtain⟨b,hg⟩:=ib.1 hh
   rw[wi hg]at ho
   obtain⟨c,hc,_⟩:=h.heap id b hg
   rcases hx.iK _ r ho with q|q
   ·rcases hx.ids _ c hc with⟨c0,q0⟩|q0
    ·exact .inr (.inr ⟨_,c0,r,q0,q,rfl⟩)
    ·rw[h0.cq _ q0]at q;cases q
   ·exact .inr q
 ·by_cases hl:id<s.bS
  ·obtain⟨c,hc,_⟩:=h.heap id b hg
   rw[h.low id hl]at hc;exact hx.ids id c hc
  ·exact .inr (by omega)
 ·rw[lo id (by omega)];exact hx.stay id hl ho
theorem Di{N:Nat}{ρ:Option Nat}{bI:Env}(h:zH π S2 s):FD N ρ s.bS bI S2 bI s:=λhb h0 hx hn=>
 ⟨_,⟨h.iE hn.iE,hn.bI.mono (h.le hn.iE),hn.size,hn.lQ.ext (h.ext hn.iE (.refl _ _ _) hn.iE (eu _)),hn.known.le (h.le hn.iE)⟩,h.ext h0 hx hn.iE hb⟩
end
section
variable {B:iP}
def toTB{S:Nat->Type}:ZB S->TB S
 |.o n l=>.cE n l
 |.l n c x=>.lz n c x
theorem toTB_er(z:ZB B.S):fB B (toTB z)=Lb (ET B.E z):=by cases z<;>rfl
theorem toTB_fr(z:ZB B.S):fI (toTB z)=false:=by cases z<;>rfl
def pY{S:Nat->Type}:Nat->List (ZB S)->List (Nat×TB S)
 |_,[]=>[]
 |i,z::r=>(i,toTB z)::pY (i+1) r
theorem Ao{l:List (ZB B.S)}{i id:Nat}:bH (pY i l) id=if i<=id then(l[id-i]?).map toTB else none:=by
 induction l generalizing i with
 |nil=>simp[pY,cR]
 |cons z r ih=>
  simp only[pY,cG]
  split
  ·rename_i e;subst e;simp
  ·rename_i eJ
   rw[ih]
   by_cases h:i<=id
   ·rw[if_pos h,if_pos (by omega),show id-i=(id-(i+1))+1 from by omega];simp
   ·rw[if_neg h,if_neg (by omega)]
theorem tu{h:List (Nat×TB B.S)}{id:Nat}{b:TB B.S}: ∀{ks:List Nat},bH (kG ks h) id=some b->jl id ks=true
 | [],hg=>by simp[kG,cR]at hg
 |k::r,hg=>by
  unfold kG at hg
  have hr:jl id r=true->jl id (k::r)=true:=λh=>by
   unfold jl at h |-
   simp only[Ue,h,Bool.or_true]
  split at hg
  ·simp only[cG]at hg
   split at hg
   ·rename_i e;subst e;exact He (by simp)
   ·exact hr (tu hg)
  ·exact hr (tu hg)
theorem xM{c w:Nat}{b:List (B.S c)}: ∀{a:List (B.S c)}{i:Nat},iw B c w i (a++b)=iw B c w i a++iw B c w (i+a.length) b
 | [],i=>rfl
 |y::r,i=>by
  by_cases hi:i<cO
  ·rw[vT,kM hi,kM hi,xM (a:=r),vT,oc,show i+1+r.length=i+(r.length+1)from by omega]
  ·have e: ∀(l:List (B.S c))j,i<=j->iw B c w j l=[]:=λl j hj=>by
    cases l with
    |nil=>rfl
    |cons z q=>simp only[iw,Ou (show¬j<cO by omega),cond_false]
   rw[e _ _ (eu _),e _ _ (eu _),e _ _ (by omega)];rfl
theorem xN{c w:Nat}{b:List (B.S c)}: ∀{a:List (B.S c)}{i:Nat},gk B c w i (a++b)=gk B c w i a++gk B c w (i+a.length) b
 | [],i=>rfl
 |y::r,i=>by
  by_cases hi:i<cO
  ·rw[vT,lZ hi,lZ hi,xN (a:=r),CT,oc,show i+1+r.length=i+(r.length+1)from by omega]
  ·have e: ∀(l:List (B.S c))j,i<=j->gk B c w j l=[]:=λl j hj=>by
    cases l with
    |nil=>rfl
    |cons z q=>simp only[gk,Ou (show¬j<cO by omega),cond_false]
   rw[e _ _ (eu _),e _ _ (eu _),e _ _ (by omega)];rfl
theorem oG{c w i id:Nat}{l:List (B.S c)}{x:gp}(h:bH (gk B c w i l) id=some x):w+1+B.K c*i<=id/\id<w+1+B.K c*(i+l.length):=by
 obtain⟨j,y,h1,h2,h3,h4⟩:=tq h
 obtain⟨g1,g2,_⟩:=tt h4
 rw[(B.hF c).hz]at g2
 have hj:j-i<l.length:=(fM.1 h3).1
 have e1:B.K c*i<=B.K c*j:=X1 _ h1
 have e2:B.K c*(j+1)<=B.K c*(i+l.length):=X1 _ (by omega)
 rw[Uf,Nat.mul_one]at e2
 constructor <;>omega
theorem iQ{c r id:Nat}{y:B.S c}{x:gp}(h:bH (jv B r (B.Z c r y)) id=some x):r<=id/\id<r+B.K c:=by
 obtain⟨g1,g2,_⟩:=tt h
 rw[(B.hF c).hz]at g2
 exact⟨g1,g2⟩
section
variable {m w n c:Nat} {cl:Bool} {pre post:List (B.S c)} {y:B.S c} {ids:List Nat} {s:dI B.S}
def FE(B:iP)(m w n c:Nat)(cl:Bool)(pre:List (B.S c))(y:B.S c)(post:List (B.S c))(ids:List Nat)(s:dI B.S):dI B.S:=
 ⟨pY s.bS (B.Z c s.bS y)++(m,.fm n c w cl pre [B.Y c s.bS y] post)::(w,.fr c cl pre 1 post)::kG ids s.heap,s.bS+B.K c⟩
def Xa(B:iP)(m w:Nat)(ids:List Nat)(S2 s:dI B.S):Bool:=
 pc s.heap&&pc S2.heap&&Al s.bS s.heap&&(s.heap.all λp=>Nat.blt p.1 s.bS)&&!(jl m ids)&&!(jl w ids)&&Ak (kh B s.heap) (kh B S2.heap)
theorem Zc{A M Z:List (Nat×gp)}{id:Nat}{x:gp}(hA: ∀z z',bH A id=some z->bH M id=some z'->False)(hZ: ∀z z',bH Z id=some z->bH M id=some z'->False):
  bH (A++(M++Z)) id=some x↔(bH (A++Z) id=some x\/bH M id=some x):=by
 rw[cU,cU,cU]
 cases hq:bH A id with
 |some z=>
  cases hn:bH M id with
  |some z'=>exact(hA _ _ hq hn).elim
  |none=>simp
 |none=>
  cases hn:bH M id with
  |none=>simp
  |some z'=>
   cases hr:bH Z id with
   |some z=>exact(hZ _ _ hr hn).elim
   |none=>simp
theorem tv(hc:pre.length<cO){id:Nat}{x:gp}:bH (eH B w (.fr c cl pre 0 (y::post))) id=some x↔
  (bH (eH B w (.fr c cl pre 1 post)) id=some x\/bH (jv B (w+1+B.K c*pre.length) (B.Z c (w+1+B.K c*pre.length) y)) id=some x):=by
 simp only[eH,CD]
 rw[lZ hc]
 refine Zc (λz z' h h'=>?_) λz z' h h'=>?_
 ·have h2:=(iQ h').1
  cases cl with
  |true=>simp[cR]at h
  |false=>have h1:=(oG h).2;rw[Ba]at h1;omega
 ·have h2:=(iQ h').2
  have h1:=(oG h).1
  rw[Uf]at h1
  omega
theorem Ap{bm bw:TB B.S}(hm:bH s.heap m=some bm)(hme:fB B bm=fB B (.fm n c w cl pre [] (y::post)))(hmf:fI bm=false)(hw:bH s.heap w=some bw)(TH:fI bw=true)(hwe:eH B w bw=eH B w (.fr c cl pre 0 (y::post)))(hc:pre.length<cO)
  (hC:Xa B m w ids (FE B m w n c cl pre y post ids s) s=true):zH (λid=>if id<s.bS then id else w+1+B.K c*pre.length+(id-s.bS)) (df B (FE B m w n c cl pre y post ids s)) (df B s):=by
 simp only[Xa,eW,pC]at hC
 obtain⟨⟨⟨⟨⟨⟨w1,w2⟩,w3⟩,w4⟩,d1⟩,d2⟩,d3⟩:=hC
 have low: ∀{id b},bH s.heap id=some b->id<s.bS:=λhg=>by have:=dM w4 hg;simpa[qZ]using this
 have I8: ∀{k b id x},bH s.heap k=some b->bH (eH B k b) id=some x->id<s.bS:=λ{k b id x}hg hx=>by
  obtain⟨f1,f2⟩:=eT hx
  have:=dM w3 hg
  simp only[f1,oe,GG]at this
  have:=sT this
  obtain⟨o1,o2⟩:=eR f2
  omega
 have aas:(df B s).bS=s.bS:=rfl
 have hmw:m≠w:=λe=>by subst e;rw[hm]at hw;cases hw;rw[hmf]at TH;cases TH
 have hwb:fB B bw=.cells 1 []:=by
  obtain⟨_,_,_,_,_,rfl⟩:=lh TH
  rfl
 have key: ∀{id b},bH (FE B m w n c cl pre y post ids s).heap id=some b->(s.bS<=id/\ ∃z,(B.Z c s.bS y)[id-s.bS]? =some z/\b=toTB z)\/(id=m/\b=.fm n c w cl pre [B.Y c s.bS y] post)\/(id=w/\b=.fr c cl pre 1 post)\/(id≠m/\id≠w/\bH s.heap id=some b):=λ{id b}hg=>by
  simp only[FE]at hg
  rw[cU,Ao]at hg
  by_cases ep:s.bS<=id
  ·rw[if_pos ep]at hg
   cases hz:(B.Z c s.bS y)[id-s.bS]? with
   |some z=>rw[hz]at hg;cases hg;exact .inl ⟨ep,z,rfl,rfl⟩
   |none=>
    exfalso
    rw[hz]at hg
    simp only[QP,cG]at hg
    have:=low hm
    have:=low hw
    rw[if_neg (by omega),if_neg (by omega)]at hg
    have:=low (jr hg)
    omega
  ·rw[if_neg ep]at hg
   simp only[cG]at hg
   split at hg
   ·rename_i e;cases hg;exact .inr (.inl ⟨e.symm,rfl⟩)
   ·split at hg
    ·rename_i e;cases hg;exact .inr (.inr (.inl ⟨e.symm,rfl⟩))
    ·rename_i e1 e2
     exact .inr (.inr (.inr ⟨λe=>e1 e.symm,λe=>e2 e.symm,jr hg⟩))
 have row: ∀{k b id x},bH (FE B m w n c cl pre y post ids s).heap k=some b->bH (eH B k b) id=some x-> ∃b',bH s.heap k=some b'/\bH (eH B k b') id=some x/\(k=w->bH (eH B w (.fr c cl pre 1 post)) id=some x):=λ{k b id x}hg hx=>by
  obtain⟨f1,f2⟩:=eT hx
  rcases key hg with⟨_,z,_,rfl⟩|⟨rfl,rfl⟩|⟨rfl,rfl⟩|⟨h1,h2,h3⟩
  ·rw[toTB_fr]at f1;cases f1
  ·cases f1
  ·exact⟨_,hw,by rw[hwe];exact(tv hc).2 (.inl hx),λ_=>hx⟩
  ·exact⟨b,h3,hx,λe=>absurd e h2⟩
 have ok: ∀j,j<B.K c->gj (df B s).bS (df B (FE B m w n c cl pre y post ids s)).heap (s.bS+j)=true:=λj hj=>by
  obtain⟨z,hz⟩: ∃z,(B.Z c s.bS y)[j]? =some z:=⟨_,dC (by rw[(B.hF c).hz];exact hj)⟩
  refine pV (b:=fB B (toTB z)) (dj (b:=toTB z) ?_)
  simp only[FE]
  rw[cU,Ao,if_pos (by omega),show s.bS+j-s.bS=j from by omega,hz]
  rfl
 have Iz:=(B.hF c).hr (gj (df B s).bS (df B (FE B m w n c cl pre y post ids s)).heap) (λid=>if id<s.bS then id else w+1+B.K c*pre.length+(id-s.bS)) s.bS (w+1+B.K c*pre.length) y λj hj=>⟨ok j hj,by
  rw[if_neg (by omega)];omega⟩
 have same: ∀{i:Nat}{l:List (B.S c)},rH (gj (df B s).bS (df B (FE B m w n c cl pre y post ids s)).heap) (λid=>if id<s.bS then id else w+1+B.K c*pre.length+(id-s.bS)) (iw B c w i l) (iw B c w i l):=λ{i l}=>qA λid x hx=>by
  have eP:=oF hx
  obtain⟨o1,o2⟩:=eR eP
  have:=dM w3 hw
  simp only[TH,oe,GG]at this
  have:=sT this
  exact⟨nG (by show id<s.bS;omega),by rw[if_pos (by omega)];omega⟩
 refine⟨?_,λid hl=>if_pos hl,?_,?_,by show s.bS<=s.bS+B.K c;omega,?_⟩
 ·intro id b hb
  rcases gH w2 hb with⟨b0,hg,rfl⟩|⟨_,k,b0,hg,hr⟩
  ·rcases key hg with⟨ep,z,hz,rfl⟩|⟨rfl,rfl⟩|⟨rfl,rfl⟩|⟨h1,h2,h3⟩
   ·have hl:id-s.bS<B.K c:=by rw[<-(B.hF c).hz s.bS y];exact(fM.1 hz).1
    have FC:(B.Z c (w+1+B.K c*pre.length) y)[id-s.bS]? =some ((B.Z c (w+1+B.K c*pre.length) y)[id-s.bS]'(by rw[(B.hF c).hz];exact hl)):=dC _
    refine⟨_,?_,.inr (by rw[toTB_er];exact Iz.2 _ _ _ hz FC)⟩
    rw[if_neg (by omega)]
    refine iZ w1 hw ?_
    rw[hwe]
    refine(tv hc).2 (.inr ?_)
    rw[kK,if_pos (by omega),show w+1+B.K c*pre.length+(id-s.bS)-(w+1+B.K c*pre.length)=id-s.bS from by omega,FC]
    rfl
   ·refine⟨fB B (.fm n c w cl pre [] (y::post)),?_,.inr ?_⟩
    ·rw[if_pos (low hm),<-hme]
     exact dj hm
    ·simp only[fB,dV,JQ,Ti,CD,qY]
     rw[kM hc]
     refine .cells (.p ?_ (.k Iz.1 same))
     cases cl with
     |true=>exact .r (kN c pre)
     |false=>exact same
   ·refine⟨fB B (.fr c cl pre 0 (y::post)),?_,.inl rfl⟩
    rw[if_pos (low hw)]
    exact(dj hw).trans (by rw[hwb];rfl)
   ·refine⟨_,?_,.inl rfl⟩
    rw[if_pos (low h3)]
    exact dj h3
  ·obtain⟨b',g1,g2,_⟩:=row hg hr
   refine⟨_,?_,.inl rfl⟩
   rw[if_pos (I8 g1 g2)]
   exact iZ w1 g1 g2
 ·intro id fq b b' hb mT e
  have nm: ∀{id b},bH (df B (FE B m w n c cl pre y post ids s)).heap id=some b->id<s.bS-> ∀j,j<B.K c->id≠w+1+B.K c*pre.length+j:=λ{id b}hb hl j hj e=>by
   have hz:=qz (r:=w+1+B.K c*pre.length) (y:=y) hj
   obtain⟨z,hz⟩:=hz
   have Iz:=(tv (cl:=cl) (post:=post) hc).2 (.inr hz)
   have eP:=(eT Iz).2
   rcases gH w2 hb with⟨b0,hg,rfl⟩|⟨_,k,b0,hg,hr⟩
   ·have hk: ∃b1,bH s.heap id=some b1:=by
     rcases key hg with⟨ep,_⟩|⟨rfl,_⟩|⟨rfl,_⟩|⟨_,_,h3⟩
     ·omega
     ·exact⟨_,hm⟩
     ·exact⟨_,hw⟩
     ·exact⟨_,h3⟩
    obtain⟨b1,h1⟩:=hk
    have:=iu w1 hw h1 TH
    rw[e,eP]at this;cases this
   ·obtain⟨b1,g1,g2,g3⟩:=row hg hr
    obtain⟨f1,f2⟩:=eT g2
    have hkw:=lE w1 g1 hw f1 TH f2 (by rw[e];exact eP)
    have:=g3 hkw
    simp only[eH]at this
    rw[cU]at this
    split at this
    ·rename_i z hq
     cases cl with
     |true=>simp[cR]at hq
     |false=>have h4:=(oG hq).2;simp at h4;omega
    ·have h4:=(oG this).1
     rw[Uf]at h4
     omega
  have hi: ∀{id b},bH (df B (FE B m w n c cl pre y post ids s)).heap id=some b-> ¬id<s.bS->id-s.bS<B.K c:=λ{id b}hb hl=>by
   rcases gH w2 hb with⟨b0,hg,rfl⟩|⟨_,k,b0,hg,hr⟩
   ·rcases key hg with⟨_,z,hz,_⟩|⟨rfl,_⟩|⟨rfl,_⟩|⟨_,_,h3⟩
    ·rw[<-(B.hF c).hz s.bS y];exact(fM.1 hz).1
    ·exact absurd (low hm) hl
    ·exact absurd (low hw) hl
    ·exact absurd (low h3) hl
   ·obtain⟨b1,g1,g2,_⟩:=row hg hr
    exact absurd (I8 g1 g2) hl
  by_cases h1:id<s.bS<;>by_cases h2:fq<s.bS
  ·rw[if_pos h1,if_pos h2]at e;exact e
  ·rw[if_pos h1,if_neg h2]at e;exact absurd e (nm hb h1 _ (hi mT h2))
  ·rw[if_neg h1,if_pos h2]at e;exact absurd e.symm (nm mT h2 _ (hi hb h1))
  ·rw[if_neg h1,if_neg h2]at e;omega
 ·intro id b hb
  show id<s.bS+B.K c
  rcases gH w2 hb with⟨b0,hg,rfl⟩|⟨_,k,b0,hg,hr⟩
  ·rcases key hg with⟨_,z,hz,_⟩|⟨rfl,_⟩|⟨rfl,_⟩|⟨_,_,h3⟩
   ·have:id-s.bS<B.K c:=by rw[<-(B.hF c).hz s.bS y];exact(fM.1 hz).1
    omega
   ·have:=low hm;omega
   ·have:=low hw;omega
   ·have:=low h3;omega
  ·obtain⟨b1,g1,g2,_⟩:=row hg hr
   have:=I8 g1 g2;omega
 ·intro id hd
  rcases gH w1 hd with⟨b,hg,hb⟩|⟨hn,k,b,hg,hr⟩
  ·have:=nH d3 id (by rw[fP,hg,gl,<-hb])
   simp only[df]
   rw[cU,this]
  ·exact(nI hr).elim
def JU(B:iP)(m n c:Nat)(x:List (B.S c))(ids:List Nat)(s:dI B.S):dI B.S:=
 ⟨(m,.fm n c s.bS false x [] [])::(s.bS,.fr c false x 0 [])::kG ids s.heap,s.bS+uP+1⟩
def Zd(B:iP)(m w r k:Nat)(ids:List Nat)(S2 s:dI B.S):Bool:=
 pc s.heap&&pc S2.heap&&Al s.bS s.heap&&(s.heap.all λp=>Nat.blt p.1 s.bS)&&!(jl m ids)&&!(jl w ids)&&(ids.all λi=>!(Nat.ble r i&&Nat.blt i (r+k)))&&Ak (kh B s.heap) (kh B S2.heap)
theorem I9{r:Nat}{x:List (B.S c)}(hx:x=pre++y::post)(hm:bH s.heap m=some (.fm n c w false pre [B.Y c r y] post))(hw:bH s.heap w=some (.fr c false pre 1 post))(hz: ∀p∈pY r (B.Z c r y),bH s.heap p.1=some p.2)(hc:pre.length<cO)
  (hC:Zd B m w r (B.K c) ids (JU B m n c x ids s) s=true):
  zH (λid=>if id<s.bS then id else if s.bS+1+B.K c*pre.length<=id/\id<s.bS+1+B.K c*pre.length+B.K c then r+(id-(s.bS+1+B.K c*pre.length))else w+(id-s.bS)) (df B (JU B m n c x ids s)) (df B s):=by
 simp only[Zd,eW,pC]at hC
 obtain⟨⟨⟨⟨⟨⟨⟨w1,w2⟩,w3⟩,w4⟩,d1⟩,d2⟩,d4⟩,d3⟩:=hC
 have low: ∀{id b},bH s.heap id=some b->id<s.bS:=λhg=>by have:=dM w4 hg;simpa[qZ]using this
 have I8: ∀{k b id x},bH s.heap k=some b->bH (eH B k b) id=some x->id<s.bS:=λ{k b id x}hg hx=>by
  obtain⟨f1,f2⟩:=eT hx
  have:=dM w3 hg
  simp only[f1,oe,GG]at this
  have:=sT this
  obtain⟨o1,o2⟩:=eR f2
  omega
 have Vd:=low hw
 have NE:=low hm
 have hwc:w+uP<=s.bS:=by
  have:=dM w3 hw
  simp only[fI,oe,GG]at this
  exact sT this
 have hz: ∀j z,(B.Z c r y)[j]? =some z->bH s.heap (r+j)=some (toTB z):=λj z hj=>by
  refine hz (r+j,toTB z) ?_
  have: ∀{l:List (ZB B.S)}{r j:Nat},l[j]? =some z->(r+j,toTB z)∈pY r l:=by
   intro l
   induction l with
   |nil=>intro r j h;simp at h
   |cons a q ih=>
    intro r j h
    cases j with
    |zero=>simp at h;subst h;simp[pY]
    |succ j=>
     simp only[pY,mB]
     right
     have:=ih (r:=r+1) (j:=j) (by simpa using h)
     rw[show r+(j+1)=r+1+j from by omega];exact this
  exact this hj
 have Xb: ∀j,j<B.K c-> ∃z,(B.Z c r y)[j]? =some z:=λj hj=>⟨_,dC (by rw[(B.hF c).hz];exact hj)⟩
 have key: ∀{id b},bH (JU B m n c x ids s).heap id=some b->(id=m/\b=.fm n c s.bS false x [] [])\/(id=s.bS/\b=.fr c false x 0 [])\/(id≠m/\id≠w/\id<s.bS/\bH s.heap id=some b/\ ∀j,j<B.K c->id≠r+j):=λ{id b}hg=>by
  simp only[JU,cG]at hg
  split at hg
  ·rename_i e;cases hg;exact .inl ⟨e.symm,rfl⟩
  ·split at hg
   ·rename_i e;cases hg;exact .inr (.inl ⟨e.symm,rfl⟩)
   ·rename_i e1 e2
    have eP:=tu hg
    refine .inr (.inr ⟨λe=>e1 e.symm,λe=>(by rw[e,d2]at eP;cases eP),low (jr hg),jr hg,λj hj e=>?_⟩)
    unfold jl at eP
    obtain⟨i,hi,hb⟩:=w9.1 eP
    have:=py.1 d4 i hi
    have hb:=iU hb
    subst hb
    subst e
    rw[Ud (by omega),I6 (by omega)]at this
    cases this
 have hL:iw B c s.bS 0 x=iw B c s.bS 0 pre++(B.Y c (s.bS+1+B.K c*pre.length) y).er B.E::iw B c s.bS (pre.length+1) post:=by
  rw[hx,xM,Ba,kM hc]
 have rI:eH B s.bS (.fr c false x 0 [])=gk B c s.bS 0 x:=by simp[eH,gk]
 have zI: ∀{id b},bH (gk B c s.bS 0 x) id=some b↔(bH (eH B s.bS (.fr c false pre 1 post)) id=some b\/bH (jv B (s.bS+1+B.K c*pre.length) (B.Z c (s.bS+1+B.K c*pre.length) y)) id=some b):=λ{id b}=>by
  rw[<-tv (cl:=false) hc,hx,xN,Ba]
  simp[eH]
 have row: ∀{k b id x0},bH (JU B m n c x ids s).heap k=some b->bH (eH B k b) id=some x0->(k=s.bS/\(bH (eH B s.bS (.fr c false pre 1 post)) id=some x0\/bH (jv B (s.bS+1+B.K c*pre.length) (B.Z c (s.bS+1+B.K c*pre.length) y)) id=some x0))\/(k≠w/\bH s.heap k=some b):=λ{k b id x0}hg hr=>by
  obtain⟨f1,f2⟩:=eT hr
  rcases key hg with⟨rfl,rfl⟩|⟨rfl,rfl⟩|⟨_,h2,_,h3,_⟩
  ·cases f1
  ·rw[rI]at hr
   exact .inl ⟨rfl,zI.1 hr⟩
  ·exact .inr ⟨h2,h3⟩
 have side: ∀{v id b},bH (eH B v (.fr c false pre 1 post)) id=some b->v<id/\id<v+uP/\(id<v+1+B.K c*pre.length\/v+1+B.K c*pre.length+B.K c<=id):=λ{v id b}h=>by
  obtain⟨o1,o2⟩:=eR (eT h).2
  refine⟨o1,o2,?_⟩
  simp only[eH,cond_false]at h
  rw[cU]at h
  split at h
  ·rename_i z hq
   have:=(oG hq).2
   rw[Ba]at this
   exact .inl this
  ·have h4:=(oG h).1
   rw[Uf]at h4
   right;omega
 have C5: ∀{id b},bH (eH B s.bS (.fr c false pre 1 post)) id=some b->(if id<s.bS then id else if s.bS+1+B.K c*pre.length<=id/\id<s.bS+1+B.K c*pre.length+B.K c then r+(id-(s.bS+1+B.K c*pre.length))else w+(id-s.bS))=w+(id-s.bS):=λ{id b}h=>by
  obtain⟨o1,o2,o3⟩:=side h
  rw[if_neg (by omega),if_neg (by omega)]
 have Xc: ∀{id b},bH (gk B c s.bS 0 x) id=some b->gj (df B s).bS (df B (JU B m n c x ids s)).heap id=true:=λ{id b}h=>
  pV (iZ (w:=s.bS) (b:=.fr c false x 0 []) w2 (by simp only[JU,cG];rw[if_neg (by omega)];simp) (by rw[rI];exact h))
 have Iz:=(B.hF c).hr (gj (df B s).bS (df B (JU B m n c x ids s)).heap) (λid=>if id<s.bS then id else if s.bS+1+B.K c*pre.length<=id/\id<s.bS+1+B.K c*pre.length+B.K c then r+(id-(s.bS+1+B.K c*pre.length))else w+(id-s.bS)) (s.bS+1+B.K c*pre.length) r y λj hj=>⟨by
  obtain⟨z,hz⟩:=qz (r:=s.bS+1+B.K c*pre.length) (y:=y) hj
  exact Xc (zI.2 (.inr hz)),by
  rw[if_neg (by omega),if_pos (by omega)];omega⟩
 have j7: ∀{id b},bH (gk B c s.bS 0 pre) id=some b->bH (eH B s.bS (.fr c false pre 1 post)) id=some b:=λ{id b}h=>by
  simp only[eH,cond_false];rw[cU,h]
 have pT: ∀{id b},bH (gk B c s.bS (pre.length+1) post) id=some b-> ∃b',bH (eH B s.bS (.fr c false pre 1 post)) id=some b':=λ{id b}h=>by
  simp only[eH,cond_false];rw[cU]
  cases hq:bH (gk B c s.bS 0 pre) id with
  |some z=>exact⟨z,rfl⟩
  |none=>exact⟨b,h⟩
 have bX: ∀{id b},bH (df B (JU B m n c x ids s)).heap id=some b->(id<s.bS/\id≠w/\(∃b',bH (df B s).heap id=some b')/\(∀j,j<B.K c->id≠r+j)/\fC w id=true)\/(id=s.bS)\/(bH (eH B s.bS (.fr c false pre 1 post)) id=some b)\/(bH (jv B (s.bS+1+B.K c*pre.length) (B.Z c (s.bS+1+B.K c*pre.length) y)) id=some b):=λ{id b}hb=>by
  rcases gH w2 hb with⟨b0,hg,rfl⟩|⟨_,k,b0,hg,hr⟩
  ·rcases key hg with⟨rfl,_⟩|⟨h,_⟩|⟨h1,h2,h3,h4,h5⟩
   ·refine .inl ⟨NE,λe=>(by subst e;rw[hm]at hw;cases hw),⟨_,dj hm⟩,λj hj e=>?_,iu w1 hw hm rfl⟩
    obtain⟨z,Km⟩:=Xb j hj
    have:=hz j z Km
    rw[<-e,hm]at this
    cases z<;>cases this
   ·exact .inr (.inl h)
   ·exact .inl ⟨h3,h2,⟨_,dj h4⟩,h5,iu w1 hw h4 rfl⟩
  ·rcases row hg hr with⟨_,h|h⟩|⟨h1,h2⟩
   ·exact .inr (.inr (.inl h))
   ·exact .inr (.inr (.inr h))
   ·obtain⟨f1,f2⟩:=eT hr
    refine .inl ⟨I8 h2 hr,λe=>?_,⟨_,iZ w1 h2 hr⟩,λj hj e=>?_,?_⟩
    ·subst e
     rw[iu w1 h2 hw f1]at f2;cases f2
    ·obtain⟨z,Km⟩:=Xb j hj
     have:=iu w1 h2 (hz j z Km) f1
     rw[<-e,f2]at this;cases this
    ·cases ho:fC w id with
     |true=>rfl
     |false=>exact absurd (lE w1 hw h2 rfl f1 ho f2).symm h1
 refine⟨?_,λid hl=>if_pos hl,?_,?_,by show s.bS<=s.bS+uP+1;omega,?_⟩
 ·intro id b hb
  rcases gH w2 hb with⟨b0,hg,rfl⟩|⟨_,k,b0,hg,hr⟩
  ·rcases key hg with⟨rfl,rfl⟩|⟨rfl,rfl⟩|⟨h1,h2,h3,h4,h5⟩
   ·refine⟨fB B (.fm n c w false pre [B.Y c r y] post),?_,.inr ?_⟩
    ·rw[if_pos NE];exact dj hm
    ·simp only[fB,dV,JQ,Ti,cond_false,qY,iw]
     rw[hL,wx]
     refine .cells (.p ?_ (.k Iz.1 ?_))
     ·exact qA λid x0 h=>⟨Xc (zI.2 (.inl (j7 h))),C5 (j7 h)⟩
     ·exact qA λid x0 h=>by
       obtain⟨b',h'⟩:=pT h
       exact⟨Xc (zI.2 (.inl h')),C5 h'⟩
   ·refine⟨fB B (.fr c false pre 1 post),?_,.inl rfl⟩
    rw[if_neg (by omega),if_neg (by omega),PI,CD]
    exact dj hw
   ·refine⟨_,?_,.inl rfl⟩
    rw[if_pos h3];exact dj h4
  ·rcases row hg hr with⟨_,h|h⟩|⟨h1,h2⟩
   ·obtain⟨x',q1,q2⟩:=tp (w':=w) (ok:=gj (df B s).bS (df B (JU B m n c x ids s)).heap) (π:=λid=>if id<s.bS then id else if s.bS+1+B.K c*pre.length<=id/\id<s.bS+1+B.K c*pre.length+B.K c then r+(id-(s.bS+1+B.K c*pre.length))else w+(id-s.bS)) (λid x0 h=>⟨Xc (zI.2 (.inl h)),C5 h⟩) id b h
    exact⟨x',by rw[C5 h];exact iZ w1 hw q1,.inr q2⟩
   ·obtain⟨g1,g2⟩:=iQ h
    rw[kK,if_pos g1]at h
    obtain⟨z,Hd,FC⟩:=GH.1 h
    obtain⟨z',Km⟩:=Xb (id-(s.bS+1+B.K c*pre.length)) (by omega)
    refine⟨_,?_,.inr (by rw[<-FC];exact Iz.2 _ _ _ Hd Km)⟩
    rw[if_neg (by omega),if_pos (by omega),<-toTB_er]
    exact dj (hz _ _ Km)
   ·exact⟨b,by rw[if_pos (I8 h2 hr)];exact iZ w1 h2 hr,.inl rfl⟩
 ·intro id fq b b' hb mT e
  have Xd: ∀j,j<B.K c->r+j<s.bS/\r+j≠w/\fC w (r+j)=true:=λj hj=>by
   obtain⟨z,Km⟩:=Xb j hj
   have:=hz j z Km
   refine⟨low this,λe=>?_,iu w1 hw this rfl⟩
   rw[e,hw]at this
   cases z<;>cases this
  rcases bX hb with⟨a1,a2,_,a3,a4⟩|h|h|h<;>rcases bX mT with⟨c1,c2,_,c3,c4⟩|h'|h'|h'
  ·rw[if_pos a1,if_pos c1]at e;exact e
  ·rw[if_pos a1,h',if_neg (by omega),if_neg (by omega)]at e;omega
  ·rw[if_pos a1,C5 h']at e
   obtain⟨o1,o2,_⟩:=side h'
   rw[e,kZ (by omega) (by omega)]at a4;cases a4
  ·obtain⟨g1,g2⟩:=iQ h'
   rw[if_pos a1,if_neg (by omega),if_pos (by omega)]at e
   exact absurd e (a3 _ (by omega))
  ·rw[if_pos c1,h,if_neg (by omega),if_neg (by omega)]at e;omega
  ·omega
  ·rw[C5 h',h,if_neg (by omega),if_neg (by omega)]at e
   obtain⟨o1,_⟩:=side h'
   omega
  ·obtain⟨g1,g2⟩:=iQ h'
   rw[h,if_neg (by omega),if_neg (by omega),if_neg (by omega),if_pos (by omega)]at e
   exact absurd e.symm (by rw[PI,CD];exact(Xd _ (by omega)).2.1)
  ·rw[if_pos c1,C5 h]at e
   obtain⟨o1,o2,_⟩:=side h
   rw[<-e,kZ (by omega) (by omega)]at c4;cases c4
  ·rw[C5 h,h',if_neg (by omega),if_neg (by omega)]at e
   obtain⟨o1,_⟩:=side h
   omega
  ·rw[C5 h,C5 h']at e
   obtain⟨o1,_⟩:=side h
   obtain⟨o2,_⟩:=side h'
   omega
  ·obtain⟨g1,g2⟩:=iQ h'
   rw[C5 h,if_neg (by omega),if_pos (by omega)]at e
   obtain⟨o1,o2,_⟩:=side h
   have:=(Xd (fq-(s.bS+1+B.K c*pre.length)) (by omega)).2.2
   rw[<-e,kZ (by omega) (by omega)]at this;cases this
  ·obtain⟨g1,g2⟩:=iQ h
   rw[if_pos c1,if_neg (by omega),if_pos (by omega)]at e
   exact absurd e.symm (c3 _ (by omega))
  ·obtain⟨g1,g2⟩:=iQ h
   rw[h',if_neg (by omega),if_pos (by omega),if_neg (by omega),if_neg (by omega)]at e
   exact absurd e (by rw[PI,CD];exact(Xd _ (by omega)).2.1)
  ·obtain⟨g1,g2⟩:=iQ h
   rw[C5 h',if_neg (by omega),if_pos (by omega)]at e
   obtain⟨o1,o2,_⟩:=side h'
   have:=(Xd (id-(s.bS+1+B.K c*pre.length)) (by omega)).2.2
   rw[e,kZ (by omega) (by omega)]at this;cases this
  ·obtain⟨g1,g2⟩:=iQ h
   obtain⟨g3,g4⟩:=iQ h'
   rw[if_neg (by omega),if_pos (by omega),if_neg (by omega),if_pos (by omega)]at e
   omega
 ·intro id b hb
  show id<s.bS+uP+1
  rcases bX hb with⟨a1,_⟩|h|h|h
  ·omega
  ·omega
  ·have:=(side h).2.1;omega
  ·have:=(eR (oF (zI.2 (.inr h)))).2;omega
 ·intro id hd
  rcases gH w1 hd with⟨b,hg,hb⟩|⟨hn,k,b,hg,hr⟩
  ·have:=nH d3 id (by rw[fP,hg,gl,<-hb])
   simp only[df]
   rw[cU,this]
  ·exact(nI hr).elim
theorem qB{α:Type}{x:List α}{i:Int}{y:α}(h:ix x i=some y):x=x.take i.toNat++y::x.drop (i.toNat+1)/\(x.take i.toNat).length=i.toNat:=by
 obtain⟨_,hy⟩:=Oq h
 obtain⟨hl,e⟩:=fM.1 hy
 refine⟨?_,by rw[CS];omega⟩
 have:=PJ i.toNat x
 rw[X8 hl,e]at this
 exact this.symm
theorem Lc{α:Type}{x:List α}{i:Int}{y z:α}(h:ix x i=some y):x.set i.toNat z=x.take i.toNat++z::x.drop (i.toNat+1):=by
 obtain⟨_,hy⟩:=Oq h
 rw[List.set_eq_take_append_cons_drop,if_pos (fM.1 hy).1]
theorem Dj{α:Type}{x:List α}{i:Int}{y:α}(h:ix x i=some y)(hc:i.toNat<cO):i.toNat=(x.take i.toNat).length/\i.toNat<=cO:=⟨(qB h).2.symm,Tj hc⟩
theorem Ve{c n w i:Nat}{x:List (B.S c)}{y:B.S c}(h:x=x.take i++y::x.drop (i+1))(hl:(x.take i).length=i):fB B (.fm n c w false x [] [])=fB B (.fm n c w false (x.take i) [] (y::x.drop (i+1))):=by
 have:iw B c w 0 x=iw B c w 0 (x.take i)++iw B c w i (y::x.drop (i+1)):=by
  conv=>lhs;rw[h,xM,hl,Ba]
 simp only[fB,dV,cond_false,JQ,CD,qY,iw,wx,this,hl]
theorem Vf{c w i:Nat}{x:List (B.S c)}{y:B.S c}(h:x=x.take i++y::x.drop (i+1))(hl:(x.take i).length=i):eH B w (.fr c false x 0 [])=eH B w (.fr c false (x.take i) 0 (y::x.drop (i+1))):=by
 have:gk B c w 0 x=gk B c w 0 (x.take i)++gk B c w i (y::x.drop (i+1)):=by
  conv=>lhs;rw[h,xN,hl,Ba]
 simp only[eH,cond_false,CD,gk,wx,this,hl]
end
theorem Aq{α:Type}{x:List α}{i:Int}{y:α}(h:ix x i=some y)(hc:i.toNat<cO):(x.take i.toNat).length<cO:=by rw[(qB h).2];exact hc
theorem tw{α:Type}{x:List α}{i:Int}{y:α}(h:ix x i=some y):0<=i/\i<(x.length:Int):=by
 have h1:=Y7 h
 have h0:=(Oq h).1
 omega
theorem P9{α:Type}{l:List α}{y:α}(h:ix l 0=some y):l=y::l.drop 1:=by
 have:=(Oq h).2
 cases l with
 |nil=>simp at this
 |cons a r=>simp at this;subst this;rfl
section
variable {c n w:Nat} {cl:Bool} {pre post x l:List (B.S c)} {y:B.S c}
theorem Vg(h:ix l 0=some y):fB B (.fm n c w cl pre [] l)=fB B (.fm n c w cl pre [] (y::l.drop 1)):=by rw[<-P9 h]
theorem Vh(h:ix l 0=some y):eH B w (.fr c cl pre 0 l)=eH B w (.fr c cl pre 0 (y::l.drop 1)):=by rw[<-P9 h]
theorem clM:fB B (.fm n c w false x [] [])=fB B (.fm n c w true [] [] x):=by simp[fB,iw,dV]
theorem clW:eH B w (.fr c false x 0 [])=eH B w (.fr c true [] 0 x):=by simp[eH,gk]
theorem shM{v:TV B.S}(h:B.E c y=v.er B.E):fB B (.fm n c w true pre [v] post)=fB B (.fm n c w true (pre++[y]) [] post):=by simp[fB,dV,h]
theorem shW:eH B w (.fr c true pre 1 post)=eH B w (.fr c true (pre++[y]) 0 post):=by simp[eH]
theorem Ze{k:Nat}(h:post=[]/\k=pre.length):fB B (.fm n c w true pre [] post)=fB B (.ls n c pre k h.2):=by
 obtain⟨h,_⟩:=h
 subst h
 simp[fB,iw,dV]
end
theorem Hf{α:Type}{E:α->AV}(hE: ∀x y,E x=E y->x=y): ∀l m:List α,l.map E=m.map E->l=m
 | [],[],_=>rfl
 | [],_::_,h=>by cases h
 |_::_,[],h=>by cases h
 |a::x,b::y,h=>by
  simp only[wy,List.cons.injEq]at h
  rw[hE _ _ h.1,Hf hE x y h.2]
section
variable {P:Program} {N:Nat} {ρ:Option Nat} {Q:Exit->Env->St->Prop} {M:TM B.S}
theorem FF{o:TO B.S}{k:List Fr}{bI:dD B.S}{S2 s:dI B.S}(ho:jU o=true)(h:FD N ρ s.bS (ez B bI) (df B S2) (ez B bI) (df B s))(hk:ki B P N ρ Q ⟨o,k,bI,S2⟩):ki B P N ρ Q ⟨o,k,bI,s⟩:=by
 cases o<;>simp only[jU]at ho<;>first|(cases ho;done)|skip
 ·have hk:wj P N ρ Q ⟨.run _,k,ez B bI,df B S2⟩:=hk
  exact rZ (bQ:=s.bS) (eu _) h hk
 ·have hk:wj P N ρ Q ⟨.out _,k,ez B bI,df B S2⟩:=hk
  exact rZ (bQ:=s.bS) (eu _) h hk
theorem BF{π:Nat->Nat}{o:TO B.S}{k:List Fr}{bI:dD B.S}{S2 s:dI B.S}(ho:jU o=true)(h:zH π (df B S2) (df B s))(hk:ki B P N ρ Q ⟨o,k,bI,S2⟩):ki B P N ρ Q ⟨o,k,bI,s⟩:=FF ho (Di h) hk
def Dk{S:Nat->Type}(M:TM S)(s:dI S):TM S:=⟨M.o,M.k,M.bI,s⟩
theorem Vi(fE m w n c:Nat)(ids:List Nat){x:List (B.S c)}{i:Int}{y:B.S c}(h:ix x i=some y)(hc:i.toNat<cO)
  (k:RT B P N ρ Q (Dk (toReg B P N fE M).1 (FE B m w n c false (x.take i.toNat) y (x.drop (i.toNat+1)) ids (toReg B P N fE M).1.s)))
  (hx:(jU (toReg B P N fE M).1.o,bH (toReg B P N fE M).1.s.heap m,bH (toReg B P N fE M).1.s.heap w,Xa B m w ids (FE B m w n c false (x.take i.toNat) y (x.drop (i.toNat+1)) ids (toReg B P N fE M).1.s) (toReg B P N fE M).1.s,(toReg B P N fE M).2.map Prod.fst)=
   (true,some (.fm n c w false x [] []),some (.fr c false x 0 []),true,(toReg B P N fE M).2.map Prod.snd):=by kernel_rfl):RT B P N ρ Q M:=by
 simp only[Prod.mk.injEq]at hx
 obtain⟨h1,h2,h3,h4,h5⟩:=hx
 refine⟨kl (dQ h5) ?_⟩
 have k:=k.v
 unfold Dk at k
 show ki B P N ρ Q (toReg B P N fE M).1
 obtain⟨e1,e2⟩:=qB h
 exact BF h1 (Ap h2 (Ve e1 e2) rfl h3 rfl (Vf e1 e2) (by rw[e2];exact hc) h4) k
theorem tOh(fE m w n c:Nat)(ids:List Nat)(cl:Bool)(pre:List (B.S c))(y:B.S c)(post:List (B.S c))(hc:pre.length<cO)
  (k:RT B P N ρ Q (Dk (toReg B P N fE M).1 (FE B m w n c cl pre y post ids (toReg B P N fE M).1.s)))
  (hx:(jU (toReg B P N fE M).1.o,bH (toReg B P N fE M).1.s.heap m,bH (toReg B P N fE M).1.s.heap w,Xa B m w ids (FE B m w n c cl pre y post ids (toReg B P N fE M).1.s) (toReg B P N fE M).1.s,(toReg B P N fE M).2.map Prod.fst)=
   (true,some (.fm n c w cl pre [] (y::post)),some (.fr c cl pre 0 (y::post)),true,(toReg B P N fE M).2.map Prod.snd):=by kernel_rfl):RT B P N ρ Q M:=by
 simp only[Prod.mk.injEq]at hx
 obtain⟨h1,h2,h3,h4,h5⟩:=hx
 refine⟨kl (dQ h5) ?_⟩
 have k:=k.v
 unfold Dk at k
 show ki B P N ρ Q (toReg B P N fE M).1
 exact BF h1 (Ap h2 rfl rfl h3 rfl rfl hc h4) k
def Ld{S:Nat->Type}(h:List (Nat×TB S)):List (Nat×TB S)->List (Option (TB S))
 | []=>[]
 |p::r=>bH h p.1::Ld h r
theorem BG{h:List (Nat×TB B.S)}: ∀{l:List (Nat×TB B.S)},Ld h l=l.map (λp=>some p.2)-> ∀p∈l,bH h p.1=some p.2
 | [],_,p,hp=>by simp at hp
 |a::r,e,p,hp=>by
  simp only[Ld,wy,List.cons.injEq]at e
  simp only[mB]at hp
  rcases hp with rfl|hp
  ·exact e.1
  ·exact BG e.2 p hp
theorem NI(fE m w n c r:Nat)(ids:List Nat)(pre:List (B.S c))(y:B.S c)(post x:List (B.S c))(hc:pre.length<cO)(he:x=pre++y::post)
  (k:RT B P N ρ Q (Dk (toReg B P N fE M).1 (JU B m n c x ids (toReg B P N fE M).1.s)))
  (hx:(jU (toReg B P N fE M).1.o,bH (toReg B P N fE M).1.s.heap m,bH (toReg B P N fE M).1.s.heap w,Ld (toReg B P N fE M).1.s.heap (pY r (B.Z c r y)),Zd B m w r (B.K c) ids (JU B m n c x ids (toReg B P N fE M).1.s) (toReg B P N fE M).1.s,(toReg B P N fE M).2.map Prod.fst)=
   (true,some (.fm n c w false pre [B.Y c r y] post),some (.fr c false pre 1 post),(pY r (B.Z c r y)).map (λp=>some p.2),true,(toReg B P N fE M).2.map Prod.snd):=by kernel_rfl):RT B P N ρ Q M:=by
 simp only[Prod.mk.injEq]at hx
 obtain⟨h1,h2,h3,h4,h5,h6⟩:=hx
 refine⟨kl (dQ h6) ?_⟩
 have k:=k.v
 unfold Dk at k
 show ki B P N ρ Q (toReg B P N fE M).1
 exact BF h1 (I9 he h2 h3 (BG h4) hc h5) k
end
theorem tx{id:Nat}: ∀{k:Nat}{h:List (Nat×gp)}{r:Nat},bH (FG r k h) id=if r<=id/\id<r+k then none else bH h id
 |0,h,r=>by rw[if_neg (by omega)];rfl
 |k+1,h,r=>by
  simp only[FG]
  rw[tx (k:=k),fw]
  by_cases h1:r<=id/\id<r+k
  ·rw[if_pos h1,if_pos (by omega)]
  ·rw[if_neg h1]
   by_cases h2:r+k=id
   ·rw[if_pos h2,if_pos (by omega)]
   ·rw[if_neg h2,if_neg (by omega)]
theorem Le{A R:List AV}{e e':AV}(hl:e'.cells.length=e.cells.length){k:Nat}{x':AV}(h:(di (A++e'::R))[k]? =some x'):
  (∃(j:Nat)(x:AV),e'.cells[j]? =some x'/\e.cells[j]? =some x/\(di (A++e::R))[k]? =some x)\/(di (A++e::R))[k]? =some x':=by
 rw[dx,iV]at h |-
 by_cases h1:k<(di A).length
 ·right
  rw[nq h1]at h |-;exact h
 ·rw[pn (by omega)]at h |-
  by_cases h2:k-(di A).length<e.cells.length
  ·left
   rw[nq (by omega)]at h |-
   exact⟨k-(di A).length,_,h,dC h2,dC h2⟩
  ·right
   rw[pn (by omega)]at h |-
   rw[hl]at h;exact h
section
variable {G G1:bZ} {s s1:St} {w:World}
theorem eA.swap(h:eA G1 s1 w){m n:Nat}{es es':List AV}(hg:bH s1.heap m=some (.cells n es))(hn:es=[]->es'=[])(hh: ∀r o,G1.own m=some r->w.heap[r.block]? =some o->Holds G1 r (.cells n es') o):
  eA G1 ⟨dT s1.heap m (.cells n es'),s1.bS⟩ w:=by
 have gs: ∀{i b},bH (dT s1.heap m (.cells n es')) i=some b->(i=m/\b=.cells n es')\/(i≠m/\bH s1.heap i=some b):=λ{i b}hi=>by
  rw[eC]at hi
  split at hi
  ·cases hi;exact .inl ⟨by omega,rfl⟩
  ·exact .inr ⟨by omega,hi⟩
 have NB: ∀{i b},bH (dT s1.heap m (.cells n es')) i=some b-> ∃b0,bH s1.heap i=some b0:=λ{i b}hi=>by
  rcases gs hi with⟨rfl,_⟩|⟨_,hb⟩
  ·exact⟨_,hg⟩
  ·exact⟨_,hb⟩
 refine⟨h.gD,λi b hi=>?_,λi i' b b' r r' h1 h2 o1 o2 eJ=>?_,λi b r o hi ho=>?_,h.cq,λi b hi=>?_⟩
 ·rcases gs hi with⟨rfl,rfl⟩|⟨_,hb⟩
  ·rcases h.heap _ _ hg with⟨r,o,e1,e2,_⟩|⟨e1,sz,h0,e2⟩
   ·exact .inl ⟨r,o,e1,e2,hh r o e1 e2⟩
   ·cases e2
    exact .inr ⟨e1,n,h0,by rw[hn rfl]⟩
  ·exact h.heap i b hb
 ·obtain⟨b1,g1⟩:=NB h1
  obtain⟨b2,g2⟩:=NB h2
  exact h.apart i i' b1 b2 r r' g1 g2 o1 o2 eJ
 ·obtain⟨b1,g1⟩:=NB hi
  exact h.clear i b1 r o g1 ho
 ·obtain⟨b1,g1⟩:=NB hi
  exact h.lt i b1 g1
theorem Ext.swap(h:Ext G s w G1 s1 w){m n:Nat}{es es':List AV}(hg:bH s1.heap m=some (.cells n es)):Ext G s w G1 ⟨dT s1.heap m (.cells n es'),s1.bS⟩ w:=
 ⟨h.le,h.os,h.tape,h.output,h.size,h.keep,h.jh,h.iK,λid b hi=>by
  simp only at hi
  rw[eC]at hi
  split at hi
  ·rename_i e;subst e;exact h.ids _ _ hg
  ·exact h.ids id b hi,h.bS,λid hd=>by
  have:=h.gb id hd
  rw[eC,if_neg (λe=>by subst e;rw[hg]at this;cases this)];exact this,h.stay,h.drawn⟩
end
theorem Qa{c m n v:Nat}(hk:0<B.K c)(CJ:fC v m=true): ∀(post pre:List (B.S c))(s:St)(G:bZ)(w:World),pre.length+post.length<=cO->eA G s w->
  bH s.heap m=some (.cells n (pre.map (B.E c)++iw B c v pre.length post))->(∀id x,bH (gk B c v pre.length post) id=some x->bH s.heap id=some x)->
  ∃G' s',eA G' s' w/\Ext G s w G' s' w/\bH s'.heap m=some (.cells n ((pre++post).map (B.E c)))/\(∀id b,id≠m->fC v id=true->bH s.heap id=some b->bH s'.heap id=some b)/\s'.bS=s.bS
 | [],pre,s,G,w,_,hs,hm,_=>⟨G,s,hs,.refl _ _ _,by simpa[iw]using hm,λ_ _ _ _ h=>h,rfl⟩
 |y::r,pre,s,G,w,hl,hs,hm,hr=>by
  simp only[oc]at hl
  have hc:pre.length<cO:=by omega
  rw[kM hc]at hm
  rw[lZ hc]at hr
  have hF:=B.hF c
  have hz: ∀(j:Nat)(z:ZB B.S),(B.Z c (v+1+B.K c*pre.length) y)[j]? =some z->bH s.heap (v+1+B.K c*pre.length+j)=some (Lb (ET B.E z)):=λj z hz=>by
   refine hr _ _ ?_
   rw[cU,kK,if_pos (by omega),show v+1+B.K c*pre.length+j-(v+1+B.K c*pre.length)=j from by omega,hz]
   rfl
  obtain⟨G1,s1,x1,hv⟩:=hF.hf (v+1+B.K c*pre.length) y s G w hs hz
  have nin: ∀{id},fC v id=true-> ¬(v+1+B.K c*pre.length<=id/\id<v+1+B.K c*pre.length+B.K c):=λ{id}ho hq=>by
   have hk4:=hF.hk
   have:B.K c*pre.length<=4*4095:=Nat.mul_le_mul hk4 (by unfold cO at hc;omega)
   rw[kZ (by omega) (by unfold uP;omega)]at ho;cases ho
  have CK:bH (FG (v+1+B.K c*pre.length) (B.K c) s.heap) m=some (.cells n (pre.map (B.E c)++(B.Y c (v+1+B.K c*pre.length) y).er B.E::iw B c v (pre.length+1) r)):=by
   rw[tx,if_neg (nin CJ)];exact hm
  have dt:(B.E c y).cells.length=((B.Y c (v+1+B.K c*pre.length) y).er B.E).cells.length:=by rw[B.hw,hF.hw]
  have Ov:=s1.swap (es':=(pre++[y]).map (B.E c)++iw B c v (pre.length+1) r) CK (λe=>by simp at e) λrg o ho hw=>by
   rcases hs.heap m _ hm with⟨r',o',e1,e2,e3⟩|⟨e1,sz,_,e2⟩
   ·have:=x1.le.own _ _ e1
    rw[ho]at this;cases this
    rw[hw]at e2;cases e2
    cases e3 with
    |cells _ _ cs e eo dS h0 iz jg eP hV=>
     refine .cells _ _ cs e eo dS h0 (λx hx=>?_) (λx hx=>?_) (by simpa using eP) λk x hx=>?_
     ·simp only[CE,wy,PK,CT,vT,qY,la,mB]at hx
      rcases hx with h|rfl|h
      ·exact iz x (by simp[h])
      ·rw[dt];exact iz _ (by simp)
      ·exact iz x (by simp[h])
     ·simp only[CE,wy,PK,CT,vT,qY]at hx
      rw[dx,iV]at hx
      simp only[la]at hx
      rcases hx with h|h|h
      ·exact jg x (by rw[dx];simp[h])
      ·exact hF.hs hk y x h
      ·exact jg x (by rw[dx,iV];simp[h])
     ·simp only[CE,wy,PK,CT,vT,qY]at hx
      rcases Le dt hx with⟨j,x0,q1,q2,q3⟩|q
      ·obtain⟨u,p1,p2⟩:=hV k x0 q3
       exact⟨u,p1,hv j x0 x u q2 q1 p2⟩
      ·obtain⟨u,p1,p2⟩:=hV k x q
       exact⟨u,p1,p2.mono x1.le⟩
   ·exfalso
    have:=congrArg (λb=>match b with|gp.cells _ l=>l.length|_=>0) e2
    simp at this
  have x2:=x1.swap (es':=(pre++[y]).map (B.E c)++iw B c v (pre.length+1) r) CK
  have eJ: ∀{id x},bH (gk B c v (pre.length+1) r) id=some x->id≠m/\ ¬(v+1+B.K c*pre.length<=id/\id<v+1+B.K c*pre.length+B.K c):=λ{id x}h=>by
   refine⟨λe=>?_,λhq=>?_⟩
   ·subst e
    rw[oF h]at CJ;cases CJ
   ·have:=(oG h).1
    rw[Uf]at this
    omega
  obtain⟨G',s',a1,a2,a3,a4,a5⟩:=Qa hk CJ r (pre++[y]) _ G1 w (by simp only[kc,Ti];omega) Ov (by
   rw[eC,if_pos rfl,kc,Ti]) λid x h=>by
   rw[kc,Ti]at h
   obtain⟨n1,n2⟩:=eJ h
   simp only
   rw[eC,if_neg (λe=>n1 e.symm),tx,if_neg n2]
   refine hr id x ?_
   rw[cU]
   split
   ·rename_i z hq
    exact absurd (iQ hq) n2
   ·exact h
  refine⟨G',s',a1,x2.trans hs a2,by rw[a3];simp,λid b h1 h2 h3=>?_,a5⟩
  refine a4 id b h1 h2 ?_
  simp only
  rw[eC,if_neg (λe=>h1 e.symm),tx,if_neg (nin h2)]
  exact h3
section
variable {P:Program} {N:Nat} {ρ:Option Nat} {Q:Exit->Env->St->Prop} {M:TM B.S}
def RD(m n c:Nat)(x:List (B.S c))(ids:List Nat)(s:dI B.S):dI B.S:=⟨(m,.lz n c x)::kG ids s.heap,s.bS⟩
def faC(B:iP)(m w c:Nat)(ids:List Nat)(S2 s:dI B.S):Bool:=
 pc s.heap&&pc S2.heap&&!(jl m ids)&&!(jl w ids)&&fC w m&&Nat.blt 0 (B.K c)&&Ak (kh B s.heap) (kh B S2.heap)
theorem Zf(fE m w n c:Nat)(ids:List Nat)(x:List (B.S c))(hl:x.length<=cO)
  (k:RT B P N ρ Q (Dk (toReg B P N fE M).1 (RD m n c x ids (toReg B P N fE M).1.s)))
  (hx:(jU (toReg B P N fE M).1.o,bH (toReg B P N fE M).1.s.heap m,bH (toReg B P N fE M).1.s.heap w,faC B m w c ids (RD m n c x ids (toReg B P N fE M).1.s) (toReg B P N fE M).1.s,(toReg B P N fE M).2.map Prod.fst)=
   (true,some (.fm n c w false x [] []),some (.fr c false x 0 []),true,(toReg B P N fE M).2.map Prod.snd):=by kernel_rfl):RT B P N ρ Q M:=by
 simp only[Prod.mk.injEq]at hx
 obtain⟨h1,h2,h3,h4,h5⟩:=hx
 refine⟨kl (dQ h5) ?_⟩
 have k:=k.v
 unfold Dk at k
 show ki B P N ρ Q (toReg B P N fE M).1
 generalize(toReg B P N fE M).1=g at *
 obtain⟨o,kk,bI,s⟩:=g
 simp only at h1 h2 h3 h4 k
 refine FF h1 ?_ k
 simp only[faC,eW,pC,qZ]at h4
 obtain⟨⟨⟨⟨⟨⟨w1,w2⟩,d1⟩,d2⟩,d3⟩,hk⟩,d4⟩:=h4
 intro G0 s0 w0 G w' a hb h0 hx hn
 have hm:=dj h2
 simp only[fB,dV,cond_false,JQ,qY,iw,wx]at hm
 obtain⟨G',s',a1,a2,a3,a4,a5⟩:=Qa hk d3 x [] (df B s) G w' (by simpa using hl) hn.iE (by simpa using hm) λid b hb=>iZ w1 h3 (by simpa[eH,gk]using hb)
 have oz: ∀id b,bH (df B (RD m n c x ids s)).heap id=some b->bH s'.heap id=some b:=λid b hb=>by
  have kk: ∀{i c'},bH (RD m n c x ids s).heap i=some c'->(i=m/\c'=.lz n c x)\/(i≠m/\i≠w/\bH s.heap i=some c'):=λ{i c'}hg=>by
   simp only[RD,cG]at hg
   split at hg
   ·rename_i e;cases hg;exact .inl ⟨e.symm,rfl⟩
   ·rename_i e
    have eP:=tu hg
    exact .inr ⟨λe'=>e e'.symm,λe'=>(by rw[e',d2]at eP;cases eP),jr hg⟩
  rcases gH w2 hb with⟨b0,hg,rfl⟩|⟨_,k,b0,hg,hr⟩
  ·rcases kk hg with⟨rfl,rfl⟩|⟨e1,e2,e3⟩
   ·rw[a3];rfl
   ·exact a4 id _ e1 (iu w1 h3 e3 rfl) (dj e3)
  ·obtain⟨f1,f2⟩:=eT hr
   rcases kk hg with⟨rfl,rfl⟩|⟨e1,e2,e3⟩
   ·cases f1
   ·have ho:fC w id=true:=by
     cases ho:fC w id with
     |true=>rfl
     |false=>exact absurd (lE w1 h3 e3 rfl f1 ho f2).symm e2
    refine a4 id b (λe=>?_) ho (iZ w1 e3 hr)
    subst e
    rw[iu w1 e3 h2 f1]at f2;cases f2
 have NA: ∀id,bH s'.heap id=some .gb->bH (df B (RD m n c x ids s)).heap id=some .gb:=λid hd=>by
  rcases a2.ids id _ hd with⟨b0,CU⟩|JS
  ·by_cases e:id=m
   ·subst e;rw[a3]at hd;cases hd
   ·by_cases ho:fC w id=true
    ·have:=a4 id b0 e ho CU
     rw[hd]at this;cases this
     rcases gH w1 CU with⟨b,hg,hb⟩|⟨_,k,b,hg,hr⟩
     ·have:=nH d4 id (by rw[fP,hg,gl,<-hb])
      simp only[df]
      rw[cU,this]
     ·exact(nI hr).elim
    ·exfalso
     rcases a1.heap id _ hd with⟨r,o,e1,e2,e3⟩|⟨_,_,_,e2⟩
     ·cases e3
      rcases hn.iE.heap id _ CU with⟨r',o',q1,q2,q3⟩|⟨q1,_,_,q2⟩
      ·have:=a2.le.own _ _ q1
       rw[e1]at this;cases this
       rw[e2]at q2;cases q2
       cases q3
       rcases gH w1 CU with⟨b,hg,hb⟩|⟨_,k,b,hg,hr⟩
       ·exact ho (iu w1 h3 hg rfl)
       ·exact nI hr
      ·rw[a2.stay id (hn.iE.lt _ _ CU) q1]at e1;cases e1
     ·cases e2
  ·have:=a1.lt id _ hd
   rw[a5]at this
   have h9:(df B s).bS=s.bS:=rfl
   omega
 have Vj:Ext G' s' w' G' (df B (RD m n c x ids s)) w':=Ext.drop oz (by rw[a5];exact eu _) NA
 have P8:=a2.trans hn.iE Vj
 exact⟨G',⟨a1.drop oz (by rw[a5];exact eu _),hn.bI.mono a2.le,hn.size,hn.lQ.ext P8,hn.known.le a2.le⟩,hx.trans h0 P8⟩
end
end
end Go.Am
section
namespace Go.Am
open Go.RowKit
variable {S:Nat->Type} {E:(c:Nat)->S c->AV} {W K:Nat->Nat} {Y:(c:Nat)->Nat->S c->TV S} {Z:(c:Nat)->Nat->S c->List (ZB S)} {c:Nat}
theorem fc(hK:K c=0)(hZ: ∀r y,Z c r y=[])(hY: ∀r y,(Y c r y).er E=E c y)(hw: ∀y,(E c y).cells.length=W c)(FH: ∀y,(E c y).dv=true):Ar E W K Y Z c where
 hk:=by rw[hK];exact zX _
 hz:=λr y=>by rw[hZ,hK];rfl
 hw:=λr y=>by rw[hY];exact hw y
 hs:=λh=>by rw[hK]at h;cases h
 hf:=λr y s G w hs _=>⟨G,by rw[hK];exact hs,by rw[hK];exact .refl _ _ _,λj x x' v h1 h2 hv=>by
  rw[hY]at h1
  rw[h1]at h2;cases h2;exact hv⟩
 hi:=λh=>by rw[hK]at h;cases h
 hr:=λok π r r' y _=>⟨by rw[hY,hY];exact .c (FH y),λj b b' h=>by rw[hZ]at h;simp at h⟩
theorem RE{d n:Nat}(L:S c->List (S d))(hK:K c=1)(hW:W c=1)(hZ: ∀r y,Z c r y=[.l n d (L y)])(hY: ∀r y,(Y c r y).er E=.ms r 0 (L y).length)(hE: ∀y,E c y=.sl false ((L y).map (E d)))(hd: ∀z,(E d z).dv=true)
  (hi: ∀x y,E c x=E c y->x=y):Ar E W K Y Z c where
 hk:=by rw[hK];decide
 hz:=λr y=>by rw[hZ,hK];rfl
 hw:=λr y=>by rw[hY,hW];rfl
 hs:=λ_ y x hx=>by
  rw[hE]at hx
  simp[AV.cells]at hx
  subst hx;rfl
 hf:=λr y s G w hs hz=>by
  have h0:=hz 0 (.l n d (L y)) (by rw[hZ];rfl)
  obtain⟨G',a1,a2,a3,_⟩:=jQ hs (bL:=0) (len:=0) h0 (zX _)
  rw[hK]
  refine⟨G',a1,a2,λj x x' v h1 h2 hv=>?_⟩
  rw[hY]at h1
  rw[hE]at h2
  cases j with
  |succ j=>simp[AV.cells]at h1
  |zero=>
   simp[AV.cells]at h1 h2
   subst h1;subst h2
   have:=a3 0 (L y).length v (by simp[ET]) hv
   simpa[ET,rP]using this
 hi:=λ_=>hi
 hr:=λok π r r' y h=>by
  obtain⟨h1,h2⟩:=h 0 (by rw[hK];decide)
  refine⟨by rw[hY,hY];exact .ms h1 h2,λj b b' e1 e2=>?_⟩
  rw[hZ]at e1 e2
  cases j with
  |succ j=>simp at e1
  |zero=>
   simp at e1 e2
   subst e1;subst e2
   refine .cells (.r (dY.2 λx hx=>?_))
   obtain⟨z,_,rfl⟩:=kb.1 hx
   exact hd z
theorem RF{d n p:Nat}(L:S c->List (S d))(a b:S c->List AV)(hp: ∀y,(a y).length=p)(hK:K c=1)(hW: ∀y,(a y).length+1+(b y).length=W c)(hZ: ∀r y,Z c r y=[.l n d (L y)])(hY: ∀r y,(Y c r y).er E=.agg (a y++ .ms r 0 (L y).length::b y))
  (hE: ∀y,E c y=.agg (a y++ .sl false ((L y).map (E d))::b y)) (hd: ∀z,(E d z).dv=true) (Ja: ∀y,eG (a y)=true/\eG (b y)=true) (jg: ∀y x,x∈a y++b y->x.cS=true) (hi: ∀x y,E c x=E c y->x=y):Ar E W K Y Z c where
 hk:=by rw[hK];decide
 hz:=λr y=>by rw[hZ,hK];rfl
 hw:=λr y=>by rw[hY,<-hW y];simp[AV.cells];omega
 hs:=λ_ y x hx=>by
  rw[hE]at hx
  simp only[AV.cells,la,mB]at hx
  rcases hx with h|rfl|h
  ·exact jg y x (by simp[h])
  ·rfl
  ·exact jg y x (by simp[h])
 hf:=λr y s G w hs hz=>by
  have h0:=hz 0 (.l n d (L y)) (by rw[hZ];rfl)
  obtain⟨G',a1,a2,a3,_⟩:=jQ hs (bL:=0) (len:=0) h0 (zX _)
  rw[hK]
  refine⟨G',a1,a2,λj x x' v h1 h2 hv=>?_⟩
  rw[hY]at h1
  rw[hE]at h2
  simp only[AV.cells]at h1 h2
  by_cases hj:j<(a y).length
  ·rw[nq hj]at h1 h2
   rw[h1]at h2;cases h2
   exact hv.mono a2.le
  ·rw[pn (by omega)]at h1 h2
   cases hq:j-(a y).length with
   |zero=>
    rw[hq]at h1 h2
    simp at h1 h2
    subst h1;subst h2
    have:=a3 0 (L y).length v (by simp[ET]) hv
    simpa[ET,rP]using this
   |succ k=>
    rw[hq]at h1 h2
    simp at h1 h2
    rw[h1]at h2;cases h2
    exact hv.mono a2.le
 hi:=λ_=>hi
 hr:=λok π r r' y h=>by
  obtain⟨h1,h2⟩:=h 0 (by rw[hK];decide)
  refine⟨by rw[hY,hY];exact .a (.p (.r (Ja y).1) (.k (.ms h1 h2) (.r (Ja y).2))),λj b b' e1 e2=>?_⟩
  rw[hZ]at e1 e2
  cases j with
  |succ j=>simp at e1
  |zero=>
   simp at e1 e2
   subst e1;subst e2
   refine .cells (.r (dY.2 λx hx=>?_))
   obtain⟨z,_,rfl⟩:=kb.1 hx
   exact hd z
theorem RG{d n n2:Nat}(L:S c->List (S d))(T:Nat->S c->TV S)(a b:S c->List AV)(hK:K c=2)(hW:W c=1)(hZ: ∀r y,Z c r y=[.o n [T r y],.l n2 d (L y)])(hY: ∀r y,(Y c r y).er E=.mp r 0 0)(hT: ∀r y,(T r y).er E=.agg (a y++ .ms (r+1) 0 (L y).length::b y))
  (hE: ∀y,E c y=.ip (a y++ .sl false ((L y).map (E d))::b y)) (hd: ∀z,(E d z).dv=true) (Ja: ∀y,eG (a y)=true/\eG (b y)=true) (hi: ∀x y,E c x=E c y->x=y):Ar E W K Y Z c where
 hk:=by rw[hK];decide
 hz:=λr y=>by rw[hZ,hK];rfl
 hw:=λr y=>by rw[hY,hW];rfl
 hs:=λ_ y x hx=>by
  rw[hE]at hx
  simp[AV.cells]at hx
  subst hx;rfl
 hf:=λr y s G w hs hz=>by
  have h0:=hz 0 (.o n [T r y]) (by rw[hZ];rfl)
  have h1:=hz 1 (.l n2 d (L y)) (by rw[hZ];rfl)
  obtain⟨G1,a1,a2,a3,_⟩:=jQ hs (bL:=0) (len:=0) h1 (zX _)
  simp only[CD,ET,dV,hT,Lb]at h0
  have g0:bH (eh s.heap (r+1)) r=some (.cells n [.agg (a y++ .ms (r+1) 0 (L y).length::b y)]):=by
   rw[fw,if_neg (by omega)];exact h0
  have Ov:=a1.swap (es':=[.agg (a y++ .sl false ((L y).map (E d))::b y)]) g0 (λe=>by cases e) λrg o ho hw=>by
   rcases hs.heap r _ h0 with⟨r',o',e1,e2,e3⟩|⟨e1,sz,_,e2⟩
   ·have:=a2.le.own _ _ e1
    rw[ho]at this;cases this
    rw[hw]at e2;cases e2
    cases e3 with
    |cells _ _ cs e eo dS h0 iz jg eP hV=>
     refine .cells _ _ cs e eo dS h0 (λx hx=>?_) (λx hx=>?_) (by simpa using eP) λk x hx=>?_
     ·simp only[QL]at hx
      subst hx
      have:=iz _ (QL.2 rfl)
      simpa[AV.cells]using this
     ·simp only[di,E5,Ug,wx,AV.cells,la,mB]at hx jg
      rcases hx with h|rfl|h
      ·exact jg x (.inl h)
      ·rfl
      ·exact jg x (.inr (.inr h))
     ·simp only[di,E5,Ug,wx,AV.cells]at hx hV
      by_cases hj:k<(a y).length
      ·rw[nq hj]at hx
       obtain⟨u,p1,p2⟩:=hV k x (by rw[nq hj];exact hx)
       exact⟨u,p1,p2.mono a2.le⟩
      ·rw[pn (by omega)]at hx
       cases hq:k-(a y).length with
       |zero=>
        rw[hq]at hx
        simp at hx
        subst hx
        obtain⟨u,p1,p2⟩:=hV k (.ms (r+1) 0 (L y).length) (by rw[pn (by omega),hq];rfl)
        have:=a3 0 (L y).length u (by simp[ET]) p2
        exact⟨u,p1,by simpa[ET,rP]using this⟩
       |succ j=>
        rw[hq]at hx
        obtain⟨u,p1,p2⟩:=hV k x (by rw[pn (by omega),hq];simpa using hx)
        exact⟨u,p1,p2.mono a2.le⟩
   ·exfalso
    have:=congrArg (λb=>match b with|gp.cells _ l=>l.length|_=>0) e2
    simp at this
  have x2:=a2.swap (es':=[.agg (a y++ .sl false ((L y).map (E d))::b y)]) g0
  obtain⟨G2,b1,b2,_,b4⟩:=jQ Ov (bL:=0) (len:=0) (id:=r) (by rw[eC,if_pos rfl]) (zX _)
  have ed:eh (dT (eh s.heap (r+1)) r (.cells n [.agg (a y++ .sl false ((L y).map (E d))::b y)])) r=eh (eh s.heap (r+1)) r:=by
   have: ∀{h:List (Nat×gp)}{i:Nat}{x:gp},(∃b,bH h i=some b)->eh (dT h i x) i=eh h i:=by
    intro h i x
    induction h with
    |nil=>rintro⟨b,hb⟩;simp[cR]at hb
    |cons p q ih=>
     rintro⟨b,hb⟩
     obtain⟨k,z⟩:=p
     simp only[cG]at hb
     simp only[sU]
     split
     ·rename_i e;subst e;simp[eh]
     ·rename_i e
      rw[if_neg e]at hb
      simp only[eh,if_neg e,ih ⟨b,hb⟩]
   exact this ⟨_,g0⟩
  rw[hK]
  have fin:FG r 2 s.heap=eh (eh s.heap (r+1)) r:=rfl
  rw[fin]
  rw[ed]at b1 b2
  refine⟨G2,b1,x2.trans hs b2,λj x x' v h1 h2 hv=>?_⟩
  rw[hY]at h1
  rw[hE]at h2
  cases j with
  |succ j=>simp[AV.cells]at h1
  |zero=>
   simp[AV.cells]at h1 h2
   subst h1;subst h2
   exact b4 _ v rfl (hv.mono x2.le)
 hi:=λ_=>hi
 hr:=λok π r r' y h=>by
  obtain⟨h1,h2⟩:=h 0 (by rw[hK];decide)
  obtain⟨h3,h4⟩:=h 1 (by rw[hK];decide)
  refine⟨by rw[hY,hY];exact .mp h1 h2,λj b b' e1 e2=>?_⟩
  rw[hZ]at e1 e2
  cases j with
  |zero=>
   simp at e1 e2
   subst e1;subst e2
   simp only[ET,dV,hT,Lb]
   exact .cells (.k (.a (.p (.r (Ja y).1) (.k (.ms h3 h4) (.r (Ja y).2)))) .z)
  |succ j=>
   cases j with
   |zero=>
    simp at e1 e2
    subst e1;subst e2
    refine .cells (.r (dY.2 λx hx=>?_))
    obtain⟨z,_,rfl⟩:=kb.1 hx
    exact hd z
   |succ j=>simp at e1
end Go.Am
end
