/- The logic AM, I: a table of nil slices, seen as a family of lists. -/
import Derived.Test.YtfdnjgoegamonaaGreatDoorAmH
set_option linter.all false
namespace Go.Am
open Go.RowKit
section
variable {B:jg} {c m n d e:Nat} {s:dZ B.S} {ids:List Nat} {y0:B.S c}
theorem E9{ok:Nat->Bool}{π:Nat->Nat}{w:Nat}(hY: ∀r,(B.Y c r y0).er B.E=.ms r 0 0): ∀{k i:Nat},i+k<=cU->sF ok π (iE B c w i (List.replicate k y0)) (List.replicate k (.sl true []))
 |0,_,_=>.z
 |k+1,i,h=>by
  rw[Yr,Yr,kF (by omega),hY];exact .k .n (E9 hY (by omega))
theorem Fa{w:Nat}(hZ: ∀r,B.Z c r y0=[.l (d+1) e []]): ∀{k i id:Nat}{b:gU},bJ (gy B c w i (List.replicate k y0)) id=some b->b=.cells (d+1) []
 |0,i,id,b,h=>by simp[gy,di]at h
 |k+1,i,id,b,h=>by
  rw[Yr]at h;by_cases hi:i<cU
  ·rw[lF hi,dp]at h;split at h
   ·rename_i z hz;cases h;rw[kE,hZ]at hz;split at hz
    ·obtain⟨q,q1,q2⟩:=D5.1 hz;obtain rfl:=O5.1 (gT q1);exact q2.symm
    ·cases hz
   ·exact Fa hZ h
  ·simp only[gy,Na hi,dD,di]at h;cases h
def mkC(B:jg)(m:Nat)(ids:List Nat)(S2 s:dZ B.S):Bool:=
 pz s.heap&&pz S2.heap&&zg s.cr s.heap&&(s.heap.all λp=>Nat.blt p.1 s.cr)&&!(jG m ids)&&yQ (kP B s.heap) (kP B S2.heap)
theorem NL{k:Nat}(hm:bJ s.heap m=some (.rows n c [] [] k))(hY: ∀r,(B.Y c r y0).er B.E=.ms r 0 0)(hZ: ∀r,B.Z c r y0=[.l (d+1) e []])(hk:k<=cU)
  (hC:mkC B m ids (Dc B m n c (List.replicate k y0) ids s) s=true):vO (λid=>id) (dA B (Dc B m n c (List.replicate k y0) ids s)) (dA B s):=by
 simp only[mkC,fE,qn]at hC;obtain⟨⟨⟨⟨⟨w1,w2⟩,w3⟩,w4⟩,d1⟩,d3⟩:=hC;have low: ∀{id b},bJ s.heap id=some b->id<s.cr:=λhg=>by have:=dV w4 hg;simpa[ru]using this
 have E5: ∀{k b id x},bJ s.heap k=some b->bJ (eX B k b) id=some x->id<s.cr:=λ{k b id x}hg hx=>by
  obtain⟨f1,f2⟩:=fh hx;have:=dV w3 hg;simp only[f1,qc,Ii]at this;have:=tR this;obtain⟨o1,o2⟩:=fi f2;omega
 have PH:=low hm;have key: ∀{id b},bJ (Dc B m n c (List.replicate k y0) ids s).heap id=some b->(id=m/\b=.fm n c s.cr false (List.replicate k y0) [] [])\/(id=s.cr/\b=.fr c false (List.replicate k y0) 0 [])\/(id<s.cr/\bJ s.heap id=some b):=λ{id b}hg=>by
  simp only[Dc,cZ]at hg;split at hg
  ·rename_i e;cases hg;exact .inl ⟨e.symm,rfl⟩
  ·split at hg
   ·rename_i e;cases hg;exact .inr (.inl ⟨e.symm,rfl⟩)
   ·exact .inr (.inr ⟨low (iW hg),iW hg⟩)
 have rL:eX B s.cr (.fr c false (List.replicate k y0) 0 [])=gy B c s.cr 0 (List.replicate k y0):=by simp[eX,gy]
 have all: ∀{id b},bJ (dA B (Dc B m n c (List.replicate k y0) ids s)).heap id=some b->(id<s.cr/\(id=m/\b=fS B (.fm n c s.cr false (List.replicate k y0) [] [])\/bJ (dA B s).heap id=some b))\/(s.cr<=id/\id<s.cr+sH+1/\ ∃cN,0<cN/\b=.cells cN []):=λ{id b}hb=>by
  rcases gS w2 hb with⟨b0,hg,rfl⟩|⟨_,k',b0,hg,hr⟩
  ·rcases key hg with⟨rfl,rfl⟩|⟨rfl,rfl⟩|⟨h1,h2⟩
   ·exact .inl ⟨PH,.inl ⟨rfl,rfl⟩⟩
   ·exact .inr ⟨eD _,by omega,1,by omega,rfl⟩
   ·exact .inl ⟨h1,.inr (dE h2)⟩
  ·obtain⟨f1,f2⟩:=fh hr;rcases key hg with⟨rfl,rfl⟩|⟨rfl,rfl⟩|⟨h1,h2⟩
   ·cases f1
   ·obtain⟨o1,o2⟩:=fi f2;rw[rL]at hr;exact .inr ⟨by omega,by omega,d+1,by omega,Fa hZ hr⟩
   ·exact .inl ⟨E5 h2 hr,.inr (jm w1 h2 hr)⟩
 refine⟨λid b hb=>?_,λ_ _=>rfl,λ_ _ _ _ _ _ e=>e,λid b hb=>?_,by show s.cr<=s.cr+sH+1;omega,λid hd=>?_⟩
 ·rcases all hb with⟨h1,⟨rfl,rfl⟩|h2⟩|⟨h1,_,h2⟩
  ·refine .inl ⟨_,dE hm,.inr ?_⟩;simp only[fS,eB,Pv,Ih,dD,sA,iE,xD];exact .cells (E9 hY (by omega))
  ·exact .inl ⟨b,h2,.inl rfl⟩
  ·exact .inr ⟨h1,h2⟩
 ·show id<s.cr+sH+1;rcases all hb with⟨h1,_⟩|⟨_,h1,_⟩<;>omega
 ·rcases gS w1 hd with⟨b,hg,hb⟩|⟨hn,k,b,hg,hr⟩
  ·have:=mV d3 id (by rw[gi,hg,gX,<-hb]);simp only[dA];rw[dp,this]
  ·exact(nr hr).elim
end
section
variable {B:jg} {P:Program} {N:Nat} {ρ:Option Nat} {Q:Exit->Env->St->Prop} {M:TM B.S}
theorem tMk(fN m n c d e:Nat)(ids:List Nat)(y0:B.S c)(k:Nat)(hY: ∀r,(B.Y c r y0).er B.E=.ms r 0 0)(hZ: ∀r,B.Z c r y0=[.l (d+1) e []])(hk:k<=cU)
  (kk:RT B P N ρ Q (Be (toReg B P N fN M).1 (Dc B m n c (List.replicate k y0) ids (toReg B P N fN M).1.s)))
  (hx:(ke (toReg B P N fN M).1.o,bJ (toReg B P N fN M).1.s.heap m,mkC B m ids (Dc B m n c (List.replicate k y0) ids (toReg B P N fN M).1.s) (toReg B P N fN M).1.s,(toReg B P N fN M).2.map Prod.fst)=
   (true,some (.rows n c [] [] k),true,(toReg B P N fN M).2.map Prod.snd):=by kernel_rfl):RT B P N ρ Q M:=by
 simp only[Prod.mk.injEq]at hx;obtain⟨h1,h2,h3,h4⟩:=hx;refine⟨kr (eo h4) ?_⟩;have kk:=kk.v;unfold Be at kk;show kR B P N ρ Q (toReg B P N fN M).1;exact xW h1 (NL h2 hY hZ hk h3) kk
theorem dQ.QH{f:FuncId}{args:List AV}{s:St}{K:AV->St->Prop}(h:dQ P f (lW qC args s).1 (lW qC args s).2 K):dQ P f args s K:=λG w vs hs hv=>by
 obtain⟨G',h1,h2,h3,h4⟩:=rE vF args s G w vs.toList hs (by simpa using hv.1) (λi x y hx hy=>hv.2 i x y hx (by simpa using hy));refine(h G' w vs h1 ⟨by simpa using h3,λi x y hx hy=>h4 i x y hx (by simpa using hy)⟩).mono ?_;rintro e w' ⟨v,G2,x,s',rfl,a,b,c,d⟩;exact⟨v,G2,x,s',rfl,a,b,h2.trans hs c,d⟩
theorem De{α β:Type}{r:β}{o:Option α}{K:α->Option β}{g:FuncId}{j7:List (TV B.S)}{X:α->TV B.S}(h:o.bind K=some r)(hf: ∀a,o=some a->dg B P g j7 X a)
  (k: ∀a,o=some a->K a=some r->RT B P N ρ Q (qV B (G B P N M).1 (X a) (l8 l7 (mH (dH B P (G B P N M).1)) (G B P N M).1.s).2.1))
  (hx:(RV (dH B P (G B P N M).1),eB B.E (l8 l7 (mH (dH B P (G B P N M).1)) (G B P N M).1.s).1,DW (l8 l7 (mH (dH B P (G B P N M).1)) (G B P N M).1.s).1,(l8 l7 (mH (dH B P (G B P N M).1)) (G B P N M).1.s).2.2.map Prod.fst,
    (jU B P (G B P N M).1 (l8 l7 (mH (dH B P (G B P N M).1)) (G B P N M).1.s).2.1).map Prod.fst,(G B P N M).2.map Prod.fst)=
   (some g,eB B.E j7,true,(l8 l7 (mH (dH B P (G B P N M).1)) (G B P N M).1.s).2.2.map Prod.snd,(jU B P (G B P N M).1 (l8 l7 (mH (dH B P (G B P N M).1)) (G B P N M).1.s).2.1).map Prod.snd,(G B P N M).2.map Prod.snd):=by kernel_rfl):RT B P N ρ Q M:=by
 simp only[Prod.mk.injEq]at hx;obtain⟨h0,h1,h2,h3,h4,h5⟩:=hx;obtain⟨a,ha,hK⟩:=mG h;refine qT h5 ⟨?_⟩;have hk:=(k a ha hK).v;have hp:kU P g (eB B.E j7) ((X a).er B.E):=hf a ha;generalize(G B P N M).1=m at *;cases hc:dH B P m with
 |none=>rw[hc]at h0;cases h0
 |some p=>
  obtain⟨g',l⟩:=p;rw[hc]at h0 h1 h2 h3 h4 hk;cases h0;refine BR hc (dQ.QH ?_) (eo h4) hk;have e:=uF (B:=B) zq l m.s h2 (eo h3);show dQ P _ (lW qC (eB B.E l) (dA B m.s)).1 (lW qC (eB B.E l) (dA B m.s)).2 _;rw[e];show dQ P _ (eB B.E (l8 l7 l m.s).1) _ _;rw[show eB B.E (l8 l7 l m.s).1=eB B.E j7 from h1];exact hp _
end
end Go.Am
