/- Plain laws, joined by gen/joinH.py. -/
import Derived.Test.YtfdnjgoegamonaaGreatDoorJE
set_option linter.all false
namespace Go.Proofs.YtfdnjgoegamonaaGreatDoor
open Go Go.Am
set_option maxRecDepth 100000
section
variable {α σ τ:Type}
theorem OO{x:Option α}{f:α->Option (σ⊕τ)}{Q:σ->Prop}{R:τ->Prop}{P1:α->Prop}(h1: ∃r,x=some r/\P1 r)(h2: ∀r,P1 r->(∃s',f r=some (.inl s')/\Q s')\/ ∃t,f r=some (.inr t)/\R t):
  (∃s',x.bind f=some (.inl s')/\Q s')\/ ∃t,x.bind f=some (.inr t)/\R t:=by
 obtain⟨r,e,hr⟩:=h1;subst e;exact h2 r hr
theorem Q8{p:Prop}[Decidable p]{x:Option (σ⊕τ)}{Q:σ->Prop}{R:τ->Prop}(h:p)(k:(∃s',x=some (.inl s')/\Q s')\/ ∃t,x=some (.inr t)/\R t):(∃s',cB p x=some (.inl s')/\Q s')\/ ∃t,cB p x=some (.inr t)/\R t:=by
 rw[cX h];exact k
theorem UZ{b:Bool}{x y:Option (σ⊕τ)}{Q:σ->Prop}{R:τ->Prop}(h1:b=true->(∃s',x=some (.inl s')/\Q s')\/ ∃t,x=some (.inr t)/\R t)(h2:b=false->(∃s',y=some (.inl s')/\Q s')\/ ∃t,y=some (.inr t)/\R t):
  (∃s',(bif b then x else y)=some (.inl s')/\Q s')\/ ∃t,(bif b then x else y)=some (.inr t)/\R t:=by
 cases b
 ·exact h2 rfl
 ·exact h1 rfl
theorem py{s:σ}{Q:σ->Prop}{R:τ->Prop}(h:Q s):(∃s',(some (.inl s):Option (σ⊕τ))=some (.inl s')/\Q s')\/ ∃t,(some (.inl s):Option (σ⊕τ))=some (.inr t)/\R t:=.inl ⟨s,rfl,h⟩
theorem Lg{t:τ}{Q:σ->Prop}{R:τ->Prop}(h:R t):(∃s',(some (.inr t):Option (σ⊕τ))=some (.inl s')/\Q s')\/ ∃t',(some (.inr t):Option (σ⊕τ))=some (.inr t')/\R t':=.inr ⟨t,rfl,h⟩
theorem iH{β:Type}{b:β}: ∃r,some b=some r/\True:=⟨b,rfl,trivial⟩
theorem sV{β γ:Type}{x:Option β}{f:β->Option γ}(h1: ∃r,x=some r/\True)(h2: ∀r,∃z,f r=some z/\True): ∃z,x.bind f=some z/\True:=fR h1 λr _=>h2 r
end
theorem f30_ex(t:ByteArray)(h:t.size<=4194304): ∃r,f30 t=some r/\True:=by
 unfold f30;refine sV ?_ λj=>kZ (λ_=>iH) λ_=>fc (λk s=>s.2=(k:Int)) (λ_=>True) t.size h rfl ?_ ?_ ?_
 ·refine kZ (λ_=>iH) λh1=>kZ (λ_=>iH) λh2=>B0 ?_ (kZ (λ_=>iH) λ_=>iH);simp at h1;omega
 ·rintro k ⟨a,b⟩ hk hs;simp only at hs;subst hs;have gl:(k:Int)<(t.size:Int):=by omega
  simp only[sB gl,dt];refine OO (P1:=λ_=>True) (B0 ⟨by omega,gl⟩ (kZ (λ_=>iH) λ_=>iH)) λj _=>UZ (λ_=>Lg trivial) λ_=>Q8 ⟨by omega,gl⟩ (py ?_);exact fH (by omega)
 ·rintro⟨a,b⟩ hs;simp only at hs;subst hs;simp only[jb (show¬(t.size:Int)<(t.size:Int)by omega),dD];exact⟨_,rfl,trivial⟩
 ·rintro(r|r) _<;>exact iH
theorem f96_ex(a b:ByteArray): ∃r,f96 a b=some r/\(r=true->b.size<=a.size):=by
 unfold f96 f140;by_cases h:b.size<=a.size
 ·have hd:decide ((b.size:Int)<=(a.size:Int))=true:=sB (by omega);simp only[hd,dt];have n1:(0:Int)<=(b.size:Int):=by omega
  have n2:0<=(b.size:Int).toNat/\(b.size:Int).toNat<=a.size:=by rw[oD];exact⟨xC _,h⟩
  rw[cX n1,cX n2];exact⟨_,rfl,λ_=>h⟩
 ·have hd:decide ((b.size:Int)<=(a.size:Int))=false:=jb (by omega);simp only[hd,dD];exact⟨_,rfl,λe=>by cases e⟩
theorem f97_ex(a b:ByteArray)(ha:a.size<=4194304)(hb:b.size<=4194304): ∃r,f97 a b=some r/\r.1.size<=a.size:=by
 unfold f97 f141;have w:wr ((a.size:Int)-(b.size:Int))=(a.size:Int)-(b.size:Int):=iZ (by omega) (by omega);rw[w];by_cases h:b.size<=a.size
 ·have hd:decide ((b.size:Int)<=(a.size:Int))=true:=sB (by omega);have n1:(0:Int)<=(a.size:Int)-(b.size:Int):=by omega
  have n2:((a.size:Int)-(b.size:Int)).toNat<=a.size/\a.size<=a.size:=by omega
  have n3:0<=((a.size:Int)-(b.size:Int)).toNat/\((a.size:Int)-(b.size:Int)).toNat<=a.size:=by omega
  simp only[hd,dt,cX n1,cX n2,cX n3,dm];refine kZ (λ_=>⟨_,rfl,eD _⟩) λ_=>⟨_,rfl,?_⟩;rw[ByteArray.size_extract];omega
 ·have hd:decide ((b.size:Int)<=(a.size:Int))=false:=jb (by omega);simp only[hd,dD,dm];exact⟨_,rfl,eD _⟩
theorem U0(l:List UInt8)(c:UInt8):Lib.indexByte l c= -1\/(0<=Lib.indexByte l c/\Lib.indexByte l c<(l.length:Int)):=by
 induction l with
 |nil=>exact .inl rfl
 |cons b l ih=>
  unfold Lib.indexByte;split
  ·exact .inr ⟨Ve _,by simp only[oC];omega⟩
  ·split
   ·exact .inl rfl
   ·rename_i h1 h2;rcases ih with e|⟨i1,i2⟩
    ·rw[e]at h2;exact absurd rfl h2
    ·exact .inr ⟨by omega,by simp only[oC];omega⟩
theorem f60_ex(a b:ByteArray)(ha:a.size<=4194304)(hb:b.data.toList.length=1): ∃r,f60 a b=some r/\(r.1.size<=a.size/\r.2.1.size<=a.size):=by
 unfold f60 f94 f138;have uj:b.size=1:=by simpa using hb
 have has:a.data.toList.length=a.size:=by simp
 simp only[cX hb,dm,uj];have hi:=U0 a.data.toList (b.data.toList.headD 0);rw[has]at hi;generalize Lib.indexByte a.data.toList (b.data.toList.headD 0)=r at hi;rcases hi with rfl|⟨i1,i2⟩
 ·simp only[show decide (0<=(-1:Int))=false from rfl,dD,dm];exact⟨_,rfl,eD _,xC _⟩
 ·have w:wr (r+((1:Nat):Int))=r+1:=by rw[iZ (by omega) (by omega)];omega
  have n1:0<=r.toNat/\r.toNat<=a.size:=by omega
  have n2:(0:Int)<=r+1:=by omega
  have n3:(r+1).toNat<=a.size/\a.size<=a.size:=by omega
  simp only[sB i1,dt,cX i1,cX n1,w,cX n2,cX n3,dm];exact⟨_,rfl,by rw[ByteArray.size_extract];omega,by rw[ByteArray.size_extract];omega⟩
theorem size_pos{a b:ByteArray}(hb:b.size=0)(h:(a.toList==b.toList)=false):0<a.size:=by
 rcases VW a.size with h0|h0
 ·exfalso;rw[ByteArray.toList_eq,ByteArray.toList_eq]at h;have e1:a.data.toList=[]:=by apply Gs;simpa using h0
  have e2:b.data.toList=[]:=by apply Gs;simpa using hb
  rw[e1,e2]at h;simp at h
 ·exact h0
theorem f61_ex(a:ByteArray): ∃r,f61 a=some r/\True:=by
 unfold f61;refine kZ (λ_=>iH) λh0=>?_;have hp:0<a.size:=size_pos rfl h0;have hn:(0:Int)<=0/\0<(a.size:Int):=by omega
 have hq:1<=a.size/\a.size<=a.size:=by omega
 rw[cX hn];refine sV ?_ λi=>kZ (λ_=>iH) λ_=>?_
 ·unfold f95 f139;exact iH
 rw[cX hq];refine sV ?_ ?_
 ·obtain⟨b,hb,wE⟩:=f96_ex (a.extract 1 a.size) (ByteArray.mk #[35]);rw[hb,dm];refine kZ (λe=>B0 ⟨wE e,eD _⟩ iH) λ_=>?_;obtain⟨d,hd,hd2⟩:=f96_ex (a.extract 1 a.size) (ByteArray.mk #[98]);rw[hd,dm];exact kZ (λe=>B0 ⟨hd2 e,eD _⟩ iH) λ_=>iH
 ·rintro⟨j,x⟩;refine sV ?_ ?_
  ·refine kZ (λ_=>iH) λ_=>?_;by_cases h1:x.size=1
   ·have hd:decide ((x.size:Int)=1)=true:=sB (by omega);have hx:(0:Int)<=0/\0<(x.size:Int):=by omega
    simp only[hd,dt,cX hx];exact sV (kZ (λ_=>iH) λ_=>iH) λb=>kZ (λ_=>iH) λ_=>iH
   ·have hd:decide ((x.size:Int)=1)=false:=jb (by omega);simp only[hd,dD,dm];exact iH
  ·rintro(r|r)
   ·simp only[vn];refine sV ?_ λr=>kZ (λ_=>iH) λ_=>iH;unfold f63;exact iH
   ·exact iH
theorem f29_ex(a:ByteArray)(ha:a.size<=4194304): ∃r,f29 a=some r/\True:=by
 unfold f29;refine fR (f60_ex a _ ha rfl) λr hr=>kZ (λ_=>iH) λ_=>sV (f61_ex _) λs=>kZ (λ_=>iH) λ_=>?_;have h62: ∃x,f62 r.2.1 (ByteArray.mk #[43])=some x/\x.1.size<=r.2.1.size:=by
  unfold f62;exact fR (f97_ex _ _ (by omega) (by decide)) λx hx=>⟨_,rfl,hx⟩
 refine fR h62 λx hx=>sV (f30_ex _ (by omega)) λn=>kZ (λ_=>iH) λ_=>kZ (λ_=>iH) λ_=>sV ?_ λ_=>iH;unfold f63;exact iH
theorem f28_ex(l:List ByteArray)(b:ByteArray)(hl:l.length<=4194304): ∃r,f28 l b=some r/\(r<0\/0<=r/\r<(l.length:Int)):=by
 unfold f28;refine fc (λk s=>s=(k:Int)) (λr=>match r with|.inl _=>True|.inr r=>0<=r/\r<(l.length:Int)) l.length hl rfl ?_ ?_ ?_
 ·rintro k s hk rfl;have e:=dR hk;simp only[dr e,dt,cJ e,dm];exact UZ (λ_=>Lg ⟨by omega,by omega⟩) λ_=>py (fH (by omega))
 ·rintro s rfl;simp only[jb (show¬(l.length:Int)<(l.length:Int)by omega),dD];exact⟨_,rfl,trivial⟩
 ·rintro(r|r) h
  ·exact⟨_,rfl,.inl (by omega)⟩
  ·exact⟨_,rfl,.inr h⟩
theorem wk(sep:ByteArray): ∀(k:Nat)(x:ByteArray),(Lib.splitB sep 0 k x).length<=k+1/\ ∀y∈Lib.splitB sep 0 k x,y.size<=x.size
 |0,x=>by simp[Lib.splitB]
 |k+1,x=>by
  unfold Lib.splitB;split
  ·simp
  ·obtain⟨h1,h2⟩:=wk sep k (x.extract ((Lib.indexB x sep).toNat+sep.size) x.size);refine⟨by simp only[oC];omega,λy hy=>?_⟩;rcases mZ.1 hy with rfl|hy
   ·rw[ByteArray.size_extract];omega
   ·have:=h2 y hy;rw[ByteArray.size_extract]at this;omega
theorem f11_ex(t:ByteArray)(ht:t.size<=4096): ∃r,f11 t=some r/\True:=by
 unfold f11 f27 f59;have hs:t.size<4294967281:=by omega
 rw[cX (show(ByteArray.mk #[32]).data.toList.length=1 from rfl),cX rfl,cX rfl,cX hs];simp only[dm];have hl:(jP t ((ByteArray.mk #[32]).data.toList.headD 0)).length<=4097:=by
  have:=(wk ⟨#[((ByteArray.mk #[32]).data.toList.headD 0)]⟩ (min (Lib.countB t ⟨#[((ByteArray.mk #[32]).data.toList.headD 0)]⟩+1) (t.size+1)-1) t).1;unfold jP;omega
 have hz: ∀y∈jP t ((ByteArray.mk #[32]).data.toList.headD 0),y.size<=t.size:=(wk _ _ _).2;generalize jP t ((ByteArray.mk #[32]).data.toList.headD 0)=l at hl hz;refine fR (f28_ex l _ (by omega)) λr hr=>kZ (λ_=>iH) λhd=>?_;have h0:0<=r/\r<(l.length:Int):=by simp at hd;omega
 have h1:r.toNat<=l.length:=by omega
 rw[cX h0.1,cX h1];have ha: ∀y∈(l.take r.toNat).drop 0,y.size<=t.size:=λy hy=>hz y (xA (D4 hy));have Gn:((l.take r.toNat).drop 0).length<=4097:=by simp;omega
 generalize(l.take r.toNat).drop 0=la at ha Gn;refine fc (λk s=>s.2=(k:Int)/\s.1.length<=k) (λr=>match r with|.inl c=>c.length<=4097|.inr _=>True) la.length (by omega) ⟨rfl,eD _⟩ ?_ ?_ ?_
 ·rintro k ⟨c,s⟩ hk ⟨hs,hc⟩;simp only at hs hc;subst hs;have e:=dR hk;simp only[dr e,dt,cJ e,dm];refine OO (f29_ex _ (by have:=ha _ (gT e);omega)) λx _=>UZ (λ_=>Lg trivial) λ_=>Q8 (by unfold bQ;omega) (py ⟨fH (by omega),by simp;omega⟩)
 ·rintro⟨c,s⟩ ⟨hs,hc⟩;simp only at hs hc;subst hs;simp only[jb (show¬(la.length:Int)<(la.length:Int)by omega),dD];exact⟨_,rfl,by show c.length<=4097;omega⟩
 ·rintro(c|x) hc
  ·have hc:c.length<=4097:=hc;have w:wr (r+1)=r+1:=iZ (by omega) (by omega);have n1:(0:Int)<=r+1:=by omega
   have n2:(r+1).toNat<=l.length:=by omega
   simp only[vn,w,cX n1,cX n2];have ha: ∀y∈(l.take l.length).drop (r+1).toNat,y.size<=t.size:=λy hy=>hz y (xA (D4 hy));have Gn:((l.take l.length).drop (r+1).toNat).length<=4097:=by simp;omega
   generalize(l.take l.length).drop (r+1).toNat=lb at ha Gn;refine fc (λk s=>s.2=(k:Int)/\s.1.length<=k) (λr=>match r with|.inl c=>c.length<=4097|.inr _=>True) lb.length (by omega) ⟨rfl,eD _⟩ ?_ ?_ ?_
   ·rintro k ⟨d,s⟩ hk ⟨hs,hd⟩;simp only at hs hd;subst hs;have e:=dR hk;simp only[dr e,dt,cJ e,dm];refine OO (f30_ex _ (by have:=ha _ (gT e);omega)) λx _=>UZ (λ_=>Lg trivial) λ_=>Q8 (by unfold bQ;omega) (py ⟨fH (by omega),by simp;omega⟩)
   ·rintro⟨d,s⟩ ⟨hs,hd⟩;simp only at hs hd;subst hs;simp only[jb (show¬(lb.length:Int)<(lb.length:Int)by omega),dD];exact⟨_,rfl,by show d.length<=4097;omega⟩
   ·rintro(d|x) _
    ·simp only[vn];rw[f31_eq];exact kZ (λ_=>iH) λ_=>iH
    ·exact iH
  ·exact iH
structure qm (P:List (List cj)) (sh:Int) (s:dX) (N:List de) (m i k:Nat) (x:cj) (y:de):Prop where
 tn:eR P i k=some x
 ny:N[m]? =some y
 fr:y.cy=x.cy
 pc:y.cw=wr (x.cw+sh)
 co: ∃p,gQ s.gO i k=some p/\p.aY=y.aY
 to:x.dK<=y.dK
 st: ∃e:Nat,∃t,(stM s.ck.bP s.ck.bP.length)[m]? =some (e,t)/\y.cP=(e:Int)/\y.cy=(jI s.ck.bP e:Int)/\y.aY=t.aY
structure F1 (y:de):Prop where
 ev:0<=y.cP/\y.cP<=399
 co:1<=y.aY/\y.aY<=14
 pi:0<=y.cw/\y.cw<=127
 ti:0<=y.cy/\y.cy<y.dK/\y.dK<=262144
section
variable {P:List (List cj)} {a:bY} {sh:Int} {s:dX} {N:List de}
theorem wm(h:kh P a sh s)(jT:s.eA=[]){i k:Nat}{x:cj}(hx:eR P i k=some x): ∃p,∃(e c:Nat),∃t,gQ s.gO i k=some p/\p∈(fx a (wr (x.cw+sh))).1/\fY s.ck.bP e t/\
  t.aY=p.aY/\t.cO=p.cO/\x.cy=(jI s.ck.bP e:Int)/\Rg s.ck.bP e p c/\x.dK<=(jI s.ck.bP c:Int)/\ ¬Twin P s.gO i x p:=by
 obtain⟨p,p1,p2⟩:=h.aa3 hx;rcases p2 with p2|p2
 ·have:=p2.2.1;rw[jT]at this;simp at this
 ·obtain⟨e,t,s1,s2,s3,s4,s5⟩:=p2.st;have htw: ¬Twin P s.gO i x p:=by
   rcases p2.n2 with⟨_,q⟩|⟨q,_⟩
   ·rw[jT]at q;simp at q
   ·exact q
  rcases s5 with⟨_,c,c1,c2⟩|⟨c,_,_,q⟩
  ·exact⟨p,e,c,t,p1,p2.pl,s1,s2,s3,s4,c1,c2,htw⟩
  ·rw[jT]at q;simp at q
theorem DJ{E:List cz}(h:lM a E){c c':Nat}(h1:c<=c')(h2:c'<=E.length):jI E c<=jI E c':=by
 rcases Ch c c' with q|q
 ·exact O8 (rm h q h2)
 ·have:c=c':=by omega
  subst this;exact eD _
theorem Aw(h:kh P a sh s)(jT:s.eA=[])(hN:lS s.ck N){i k:Nat}{x:cj}(hx:eR P i k=some x): ∃m y,qm P sh s N m i k x y:=by
 obtain⟨p,e,c,t,q1,q2,q3,q4,q5,q6,q7,q8,q9⟩:=wm h jT hx;obtain⟨T,L,X,fF,_⟩:=h.set;obtain⟨m,hm⟩:=UY q3;obtain⟨c',e1,e2⟩:=hN.2 m e t hm;have eP:=Rg.UX q7 e1 q3 q4 q5;have hmo:=DJ fF.ev eP e1.le;refine⟨m,_,hx,e2,by show(jI s.ck.bP e:Int)=_;omega,?_,⟨p,q1,by show p.aY=t.aY;rw[q4]⟩,by show _<=(jI s.ck.bP c':Int);omega,e,t,hm,rfl,rfl,rfl⟩;show DF s.ck.instrument t=_;have hp:(⟨t.aY,t.cO⟩:be)=p:=by rw[q4,q5]
 unfold DF;rw[h.ai,hp,f49_y q2];rfl
theorem Ax(h:kh P a sh s)(jT:s.eA=[])(hN:lS s.ck N){m:Nat}(hm:m<N.length): ∃i k x y,qm P sh s N m i k x y:=by
 obtain⟨T,L,X,fF,_⟩:=h.set;have oG:m<(stM s.ck.bP s.ck.bP.length).length:=by rw[<-hN.1];exact hm
 have em:=dR oG;generalize(stM s.ck.bP s.ck.bP.length)[m]=z at em;obtain⟨e,t⟩:=z;have iA:=(jE.1 (gT em)).2;obtain⟨i,k,x,x1,x2,x3⟩:=fF.sp e t iA;obtain⟨m',y,ho⟩:=Aw h jT hN x1;obtain⟨p,p1,p2⟩:=ho.co;have:m'=m:=F0 h hN em ho.ny (by rw[ho.fr,x2]) (by rw[<-p2];rw[x3]at p1;cases p1;rfl);subst this;exact⟨i,k,x,y,ho⟩
theorem F2(h:kh P a sh s)(jT:s.eA=[]){m i k:Nat}{x:cj}{y:de}(ho:qm P sh s N m i k x y){i' k':Nat}{x':cj}{p':be}(hx:eR P i' k'=some x')(hp:gQ s.gO i' k'=some p')(hf:x'.cy=y.cy)(hc:p'.aY=y.aY):i'=i/\k'=k:=by
 obtain⟨T,L,X,fF,_⟩:=h.set;obtain⟨p,e,c,t,q1,q2,q3,q4,q5,q6,q7,q8,q9⟩:=wm h jT ho.tn;obtain⟨p2,e2,c2,t2,r1,r2,r3,r4,r5,r6,r7,r8,r9⟩:=wm h jT hx;rw[hp]at r1;cases r1;obtain⟨p0,o1,o2⟩:=ho.co;rw[q1]at o1;cases o1;have rL:=ho.fr;have l1:=q3.lt;have l2:=r3.lt;have:e2=e:=H7 fF.ev (O8 l2) (O8 l1) (by omega);subst this;have:t2=t:=fF.ev.one r3 q3 (by rw[r4,q4,hc,o2]);subst this;have oH:p'=p:=by
  cases p';cases p;simp only at r4 r5 q4 q5;simp only[be.mk.injEq];exact⟨by rw[<-r4,<-q4],by rw[<-r5,<-q5]⟩
 subst oH;have hi:i'=i:=by
  rcases Gt i' i with q|q|q
  ·exact absurd ⟨i',k',x',q,hx,by omega,hp⟩ q9
  ·exact q
  ·exact absurd ⟨i,k,x,q,ho.tn,by omega,q1⟩ r9
 subst hi;exact⟨rfl,JC (λp hp=>((kJ h.pr).2 p hp).2) i' k' k x' x hx ho.tn (by omega)⟩
theorem F3(h:kh P a sh s)(hN:lS s.ck N){m m' i k:Nat}{x x':cj}{y y':de}(ho:qm P sh s N m i k x y)(qo:qm P sh s N m' i k x' y'):m'=m:=by
 obtain⟨e,t,e1,e2,e3,e4⟩:=ho.st;obtain⟨p,p1,p2⟩:=ho.co;obtain⟨p',p3,p4⟩:=qo.co;rw[p1]at p3;cases p3;have:=ho.tn;rw[qo.tn]at this;cases this;exact F0 h hN e1 qo.ny (by rw[qo.fr,<-ho.fr,e3]) (by rw[<-p4,p2,e4])
theorem yg(h:kh P a sh s){m m' i k k':Nat}{x x':cj}{y y':de}(ho:qm P sh s N m i k x y)(qo:qm P sh s N m' i k' x' y')(hk:k<k'):m<m'/\y.cP<y'.cP/\x.dK<=y'.cy:=by
 obtain⟨T,L,X,fF,_⟩:=h.set;obtain⟨pp,g1,g2⟩:=mr ho.tn;obtain⟨U1,g3,g4⟩:=mr qo.tn;rw[g1]at g3;cases g3;obtain⟨w1,w2⟩:=xZ pp 0 ((kJ h.pr).2 pp (gT g1)).2;have Sh:=w2 k k' x x' hk g2 g4;have hxf:=w1 k x g2;obtain⟨e,t,e1,e2,e3,e4⟩:=ho.st;obtain⟨e',t',d1,d2,d3,d4⟩:=qo.st;have rL:=ho.fr;have abe:=qo.fr;have m1:=(jE.1 (gT e1)).1;have m2:=(jE.1 (gT d1)).1;have m1:e<s.ck.bP.length:=m1;have m2:e'<s.ck.bP.length:=m2;have Zy:e<e':=by
  rcases Ch e e' with q|q
  ·exact q
  ·have:=DJ fF.ev q (O8 m1);omega
 refine⟨?_,by omega,by omega⟩;have hp:=yf fF.ev s.ck.bP.length;rw[D6]at hp;obtain⟨j1,j2⟩:=fT.1 e1;obtain⟨j3,j4⟩:=fT.1 d1;rcases Gt m m' with q|q|q
 ·exact q
 ·subst q;rw[j2]at j4;simp only[Prod.mk.injEq]at j4;omega
 ·have:=hp m' m j3 j1 q;rw[j2,j4]at this;rcases this with q|⟨q,_⟩<;>simp only at q<;>omega
theorem U2(h:kh P a sh s)(jT:s.eA=[])(hN:lS s.ck N){m:Nat}{y:de}(hy:N[m]? =some y):F1 y:=by
 obtain⟨T,L,X,fF,_,_,hT,_⟩:=h.set;have hm:=(fT.1 hy).1;have oG:m<(stM s.ck.bP s.ck.bP.length).length:=by rw[<-hN.1];exact hm
 have em:=dR oG;generalize(stM s.ck.bP s.ck.bP.length)[m]=z at em;obtain⟨e,t⟩:=z;obtain⟨c,c1,c2⟩:=hN.2 m e t em;rw[hy]at c2;cases c2;obtain⟨gl,iA⟩:=jE.1 (gT em);have gl:e<s.ck.bP.length:=gl;obtain⟨q,hq⟩:=(fF.ev.st e t iA).pl;have ja:=h.el;obtain⟨o1,o2,o3,o4,o5,o6⟩:=js hq;have o2:1<=t.aY:=o2;have o3:t.aY<=14:=o3;have abf:0<=q/\q<=127:=by
  unfold fx at hq;simp only[o1,wz]at hq;cases hb:decide (q<0)||decide (127<q)
  ·simp only[JQ,O6]at hb;omega
  ·rw[hb]at hq;simp only[dt]at hq;cases hq
 have abg:DF s.ck.instrument t=q:=by
  unfold DF;rw[h.ai,f49_y hq];rfl
 have Lv:=rm fF.ev c1.lt c1.le;have abh:=DJ fF.ev c1.le (eD _);have hdu:=fF.du;have hTb:T<=262144:=by
  have key: ∀x∈P.flatten,0<=x.cy/\x.cy<x.dK/\x.dK<=262144:=λx hx=>by
   obtain⟨i,k,Sc⟩:=px.1 hx;have:=sy (kJ h.pr).2 Sc;omega
  rcases B8 hT with e|⟨x,hx,e|e⟩
  ·omega
  ·have:=key x hx;omega
  ·have:=key x hx;omega
 refine⟨⟨?_,?_⟩,⟨?_,?_⟩,⟨?_,?_⟩,?_,?_,?_⟩
 ·show 0<=(e:Int);omega
 ·show(e:Int)<=399;omega
 ·show 1<=t.aY;omega
 ·show t.aY<=14;omega
 ·show 0<=DF s.ck.instrument t;omega
 ·show DF s.ck.instrument t<=127;omega
 ·show 0<=(jI s.ck.bP e:Int);omega
 ·show(jI s.ck.bP e:Int)<(jI s.ck.bP c:Int);omega
 ·show(jI s.ck.bP c:Int)<=262144;omega
theorem Lh(h:kh P a sh s)(hN:lS s.ck N){m:Nat}{y y':de}(hy:N[m]? =some y)(Ee:N[m+1]? =some y'):(y.cP<y'.cP/\y.cy<y'.cy)\/(y.cP=y'.cP/\y.aY<y'.aY/\y.cy=y'.cy):=by
 obtain⟨T,L,X,fF,_⟩:=h.set;have hm:=(fT.1 Ee).1;have oG:m+1<(stM s.ck.bP s.ck.bP.length).length:=by rw[<-hN.1];exact hm
 have e1:=dR (show m<(stM s.ck.bP s.ck.bP.length).length by omega);have e2:=dR oG;have hp:=yf fF.ev s.ck.bP.length;rw[D6]at hp;have hp:=hp m (m+1) (by omega) oG (by omega);generalize(stM s.ck.bP s.ck.bP.length)[m]'(by omega)=z at e1 hp;generalize(stM s.ck.bP s.ck.bP.length)[m+1]=z' at e2 hp;obtain⟨e,t⟩:=z;obtain⟨e',t'⟩:=z';obtain⟨c,_,c2⟩:=hN.2 m e t e1;obtain⟨c',_,c4⟩:=hN.2 (m+1) e' t' e2;rw[hy]at c2;cases c2;rw[Ee]at c4;cases c4;have m2:=(jE.1 (gT e2)).1;have m2:e'<s.ck.bP.length:=m2;simp only at hp;rcases hp with q|⟨q,q2⟩
 ·have:=rm fF.ev q (O8 m2);exact .inl ⟨by show(e:Int)<(e':Int);omega,by show(jI s.ck.bP e:Int)<(jI s.ck.bP e':Int);omega⟩
 ·subst q;exact .inr ⟨rfl,q2,rfl⟩
end
def Bo(n:Nat):gj:=⟨List.replicate n 0,List.replicate n 127,127,262144,10⟩
theorem f52_ok{n:Nat}(h1:1<=n)(h5:n<=5):f52 (Bo n)=some 0:=by
 have:n=1\/n=2\/n=3\/n=4\/n=5:=by omega
 rcases this with rfl|rfl|rfl|rfl|rfl
 ·exact(by kernel_rfl:f52 (Bo 1)=some 0)
 ·exact(by kernel_rfl:f52 (Bo 2)=some 0)
 ·exact(by kernel_rfl:f52 (Bo 3)=some 0)
 ·exact(by kernel_rfl:f52 (Bo 4)=some 0)
 ·exact(by kernel_rfl:f52 (Bo 5)=some 0)
structure wo (N:List de):Prop where
 len:N.length<=5600
 v: ∀(m:Nat)y,N[m]? =some y->F1 y
 nx: ∀(m:Nat)y y',N[m]? =some y->N[m+1]? =some y'->(y.cP<y'.cP/\y.cy<y'.cy)\/(y.cP=y'.cP/\y.aY<y'.aY/\y.cy=y'.cy)
theorem wo.small{N:List de}(h:wo N):cH N:=by have:=h.len;simp only[cH];omega
theorem f23_ok{N:List de}(h:wo N):f23 N=some 0:=by
 unfold f23;have hl:=h.len;simp only[jb (show¬5600<(N.length:Int)by omega),dD];rw[KO N h.small]
 ·rfl
 ·intro i y hy;have v:=h.v i y hy;have i1:om y.cP 0 399=true:=by simp[om];exact v.ev
  have i2:om y.aY 1 14=true:=by simp[om];exact v.co
  have i3:om y.cw 0 127=true:=by simp[om];exact v.pi
  have t1:=v.ti;have d1:decide (y.cy<0)=false:=jb (by omega);have d2:decide (y.dK<=y.cy)=false:=jb (by omega);have d3:decide (262144<y.dK)=false:=jb (by omega);simp only[dr hy,dt,cJ hy,dm,f24_eq,i1,i2,i3,qc,dD,d1,d2,d3];cases i with
  |zero=>rfl
  |succ i=>
   have hi:=(fT.1 hy).1;have e:=dR (show i<N.length by omega);generalize N[i]'(by omega)=y0 at e;have w:wr (((i+1:Nat):Int)-1)=(i:Int):=by rw[iZ (by omega) (by omega)];omega
   have d0:decide (((i+1:Nat):Int)=0)=false:=jb (by omega);simp only[d0,dD,w,cJ e,dm];rcases h.nx i y0 y e hy with⟨q1,q2⟩|⟨q1,q2,q3⟩
   ·simp only[jb (show¬y.cP<y0.cP by omega),jb (show¬y.cP=y0.cP by omega),sB q1,jb (show¬y.cy<=y0.cy by omega),dD,dt,dm];rfl
   ·simp only[jb (show¬y.cP<y0.cP by omega),sB q1.symm,jb (show¬y0.cP<y.cP by omega),jb (show¬y.aY<=y0.aY by omega),jb (show¬y.cy≠y0.cy by omega),dD,dt,dm];rfl
 ·simp only[jb (show¬((N.length:Nat):Int)<(N.length:Int)by omega),dD]
theorem f53_ex{l:List de}{z:de}(h0:l[0]? =some z)(hs:cH l): ∃r,f53 l l=some r/\(r<0\/1<=r/\r<(l.length:Int)):=by
 have nZ:l.length<=4194304:=by simp only[cH]at hs;omega
 unfold f53;refine fc (λk s=>s=(k:Int)) (λr=>match r with|.inl _=>True|.inr r=>1<=r/\r<(l.length:Int)) l.length nZ rfl ?_ ?_ ?_
 ·rintro k s hk rfl;have e:=dR hk;generalize l[k]=y at e;have hz:ix l 0=some z:=QT 0 rfl h0;simp only[dr e,dt,cJ e,dm,f54,hz];refine UZ (λhb=>Lg ⟨?_,by omega⟩) λ_=>py (fH (by omega));rcases VW k with h|h
  ·subst h;rw[h0]at e;cases e;simp at hb
  ·show 1<=(k:Int);omega
 ·rintro s rfl;simp only[jb (show¬(l.length:Int)<(l.length:Int)by omega),dD];exact⟨_,rfl,trivial⟩
 ·rintro(r|r) h
  ·exact⟨_,rfl,.inl (by omega)⟩
  ·exact⟨_,rfl,.inr h⟩
theorem f19_ex{N:List de}(hN:N.length<=5600): ∃L,f19 N=some L/\(L.flatten=N/\(∀p∈L,p≠[])/\L.length<=5600):=by
 unfold f19;refine fc (λk s=>s.2.flatten++s.1=N/\(∀p∈s.2,p≠[])/\s.1.length+k<=N.length/\s.2.length<=k) (λL=>L.flatten=N/\(∀p∈L,p≠[])/\L.length<=5600) N.length (by omega) ⟨rfl,λp hp=>by simp at hp,by simp,eD _⟩ ?_ ?_ ?_
 ·rintro k ⟨l,A⟩ hk ⟨h1,h2,h3,h4⟩;simp only at h1 h2 h3 h4;refine UZ (λhd=>?_) λhd=>Lg ?_
  ·have vz:0<l.length:=by simpa using hd
   have e:=dR vz;obtain⟨r,r1,r2⟩:=f53_ex e (by simp only[cH];omega);rw[r1,dm];have hj: ∃j:Nat,(bif decide (r<0)then(some (l.length:Int))else(some r):Option Int)=some (j:Int)/\(1<=j/\j<=l.length):=by
    rcases r2 with r2|⟨r2,r3⟩
    ·exact⟨l.length,by rw[sB r2];rfl,vz,eD _⟩
    ·exact⟨r.toNat,by rw[jb (by omega)];show some r=_;congr 1;omega,by omega,by omega⟩
   obtain⟨j,j1,j2,j3⟩:=hj;rw[j1,dm];refine Q8 (by omega) (Q8 (by simpa using j3) (Q8 (by unfold bQ;omega) (py ?_)));rw[oD,AN,VZ];refine⟨?_,λp hp=>?_,by simp;omega,by simp;omega⟩
   ·show(A++[l.take j]).flatten++l.drop j=N;rw[V4,Ig];simp only[V3,List.flatten_nil,xD];rw[Lk];exact h1
   ·rcases lT.1 hp with hp|hp
    ·exact h2 p hp
    ·obtain rfl:=O5.1 hp;intro he;have:=fC List.length he;rw[F7,Ih]at this;omega
  ·have hl:l=[]:=by simp at hd;exact hd
   subst hl;exact⟨by simpa using h1,h2,by omega⟩
 ·rintro⟨l,A⟩ ⟨h1,h2,h3,h4⟩;simp only at h1 h2 h3 h4;have hl:l=[]:=Gs (by omega);subst hl;exact⟨_,rfl,by simpa using h1,h2,by omega⟩
 ·intro L hL;exact⟨_,rfl,hL⟩
theorem f20_ex{n:Nat}{now:List de}{z y:de}{v:Nat}(h5:n<=5)(hv:v<n)(hz:now[v]? =some z)(hy:F1 y)(hc:z.dK=0\/(F1 z/\z.cP≠y.cP)): ∃r,f20 now (Bo n) y ((v:Int)+1)=some r/\(r.2.1=true/\r.2.2=now.set v y):=by
 unfold f20 Bo;have w:wr ((v:Int)+1-1)=(v:Int):=by rw[iZ (by omega) (by omega)];omega
 have g1:(List.replicate n (0:Int))[v]? =some 0:=by rw[Va,dP hv]
 have g2:(List.replicate n (127:Int))[v]? =some 127:=by rw[Va,dP hv]
 have i1:om ((v:Int)+1) 1 (n:Int)=true:=by simp[om];omega
 have i2:om y.cw 0 127=true:=by simp[om];exact hy.pi
 have n1:(v:Int)<5:=by omega
 have e0:wr (v:Int)=(v:Int):=iZ (by omega) (by omega);simp only[Sy,f24_eq,i1,dm,qc,dD,w,cJ g1,cJ g2,i2,cX n1,cJ hz,oD];have hp:=hy.pi;have ht:=hy.ti;rcases hc with h0|⟨DV,eU⟩
 ·simp only[h0,oF,fq,dD,dm,vn];exact⟨_,rfl,rfl,rfl⟩
 ·have zp:=DV.pi;have zt:=DV.ti;have d1:decide (0<z.dK)=true:=sB (by omega);have d2:decide (z.cP=y.cP)=false:=jb eU;simp only[d1,d2,dt,dD,dm];have m1:decide ((127:Int)<kX (wr (y.cw-z.cw)) (wr (z.cw-y.cw)))=false:=by
   rw[iZ (by omega) (by omega),iZ (by omega) (by omega)];apply jb;unfold kX;split<;>omega
  cases decide (y.cy<=wr (z.dK+262144))<;>simp only[dt,dD,dm,m1,vn]<;>exact⟨_,rfl,rfl,rfl⟩
theorem f21_ex {now : List de} (h5 : now.length = 5) (t : Int) : ∃ r, f21 now t = some r ∧ r ≤ 10 := by
  unfold f21;refine fc (fun k s => s.2 = (k : Int) ∧ 0 ≤ s.1 ∧ s.1 ≤ ((List.range k).sum : Nat)) (fun r => r ≤ 10) 5 (by omega) ⟨rfl, Ve _, by simp⟩ ?_ ?_ ?_
  · rintro k ⟨c, b⟩ hk ⟨hb, h0, hc⟩;simp only at hb h0 hc;subst hb;have hs : (List.range k).sum ≤ 10 := by
      have : k = 0 ∨ k = 1 ∨ k = 2 ∨ k = 3 ∨ k = 4 := by omega
      rcases this with rfl | rfl | rfl | rfl | rfl <;> decide
    have hk5 : (k : Int) < 5 := by omega
    simp only [sB hk5, dt];have ek := dR (show k < now.length by omega);generalize now[k]'(by omega) = yk at ek;refine OO (P1 := fun r => c ≤ r ∧ r ≤ c + k) (jQ (fun j s => s.2 = (j : Int) ∧ c ≤ s.1 ∧ s.1 ≤ c + j) (fun r => c ≤ r ∧ r ≤ c + k) k (by omega) ⟨rfl, Ve _, by simp⟩ ?_ ?_) fun r hr => py ⟨fH (by omega), by show 0 ≤ r; omega, ?_⟩
    · rintro j ⟨d, i⟩ hj ⟨hi, h1, h2⟩;simp only at hi h1 h2;subst hi;have ej := dR (show j < now.length by omega);generalize now[j]'(by omega) = yj at ej;have hjk : (j : Int) < (k : Int) := by omega
      have hj5 : (j : Int) < 5 := by omega
      simp only [sB hjk, dt, cX hj5, cJ ej, dm, cX hk5, cJ ek];refine OO (P1 := fun r => d ≤ r ∧ r ≤ d + 1) (fR (P1 := fun _ => True) (kZ (fun _ => kZ (fun _ => iH) fun _ => iH) fun _ => iH) fun b _ => kZ (fun _ => ⟨_, rfl, ?_⟩) fun _ => ⟨_, rfl, Ve _, by omega⟩) fun r hr => py ⟨fH (by omega), by show c ≤ r; omega, by show r ≤ c + ((j + 1 : Nat) : Int); omega⟩;rw [iZ (by omega) (by omega)]; omega
    · rintro ⟨d, i⟩ ⟨hi, h1, h2⟩;simp only at hi h1 h2;subst hi;simp only [jb (show ¬ (k : Int) < (k : Int) by omega), dD];exact ⟨_, rfl, h1, h2⟩
    · show r ≤ (((List.range (k + 1)).sum : Nat) : Int);rw [List.range_succ, List.sum_append];simp only [SA, List.sum_nil];omega
  · rintro ⟨c, b⟩ ⟨hb, h0, hc⟩;simp only at hb h0 hc;subst hb;have : (((List.range 5).sum : Nat) : Int) = 10 := by decide
    exact ⟨_, rfl, by omega⟩
  · intro r hr;exact ⟨r, rfl, hr⟩
theorem qX{α:Type}: ∀{L:List (List α)}{k:Nat}{p:List α}{j:Nat}{y:α},L[k]? =some p->p[j]? =some y->L.flatten[(L.take k).flatten.length+j]? =some y
 | [],k,p,j,y,h,_=>by simp at h
 |q::L,0,p,j,y,h,hy=>by
  simp at h;subst h;have hj:=(fT.1 hy).1;simp only[Re,List.flatten_nil,Ih,Cd,V3];rw[nD hj];exact hy
 |q::L,k+1,p,j,y,h,hy=>by
  have ih:=qX (L:=L) (by simpa using h) hy;simp only[List.take_succ_cons,V3,lu];rw[qb (by omega)];rw[show q.length+(L.take k).flatten.length+j-q.length=(L.take k).flatten.length+j by omega];exact ih
theorem OP{α:Type}{L:List (List α)}{k:Nat}{p:List α}(h:L[k]? =some p):(L.take (k+1)).flatten.length=(L.take k).flatten.length+p.length:=by
 rw[dj h];simp
def OQ(N:List de)(U:List Int)(i:Nat)(now:List de):Prop:=now.length=5/\ ∀(j:Nat)z,now[j]? =some z->z.dK=0\/ ∃m,m<i/\N[m]? =some z/\U[m]? =some ((j:Int)+1)
theorem f7_ok{n:Nat}{N:List de}{U:List Int}(h1:1<=n)(h5:n<=5)(hN:wo N)(hU:U.length=N.length)(hu: ∀(m:Nat)u,U[m]? =some u->1<=u/\u<=(n:Int))
  (hd: ∀(m m':Nat)y y' u,m'<m->N[m]? =some y->N[m']? =some y'->U[m]? =some u->U[m']? =some u->y'.cP≠y.cP): ∃r,f7 (Bo n) N U=some r/\r.2.2=0:=by
 unfold f7 f18;rw[f52_ok h1 h5,f23_ok hN];simp only[dm,rz,xb,fq,dD,hU];obtain⟨L,l1,l2,l3,l4⟩:=f19_ex hN.len;rw[l1,dm];have dJ:=hN.len;refine fc (λk s=>s.2.2.2=(k:Int)/\s.2.2.1=((L.take k).flatten.length:Int)/\OQ N U (L.take k).flatten.length s.2.1) (λr=>match r with|.inl _=>True|.inr r=>r.2.2=0) L.length (by omega) ⟨rfl,rfl,rfl,?_⟩ ?_ ?_ ?_
 ·intro j z hz;left;have hm:z∈([⟨0,0,0,0,0⟩,⟨0,0,0,0,0⟩,⟨0,0,0,0,0⟩,⟨0,0,0,0,0⟩,⟨0,0,0,0,0⟩]:List de):=gT hz;simp at hm;subst hm;rfl
 ·rintro k ⟨v,now,i,ik⟩ hk ⟨e1,e2,e3⟩;simp only at e1 e2 e3;subst e1;subst e2;have ek:=dR hk;generalize L[k]=p at ek;have hpn:p≠[]:=l3 p (gT ek);have pI:=OP ek;have Du:(L.take (k+1)).flatten.length<=N.length:=by
   have:=Lk (k+1) L;rw[<-l2];conv=>rhs;rw[<-this]
   rw[V4,lu];omega
  simp only[dr ek,dt,cJ ek,dm];refine OO (P1:=λ(r:(Int×List de×Int)⊕((eO×List de×Int×Int)⊕(eO⊕(eO×Int×Int))))=>match r with|.inl x=>x.2.2=(((L.take (k+1)).flatten.length:Nat):Int)/\OQ N U (L.take (k+1)).flatten.length x.2.1|.inr _=>False) (jQ (λj(s:Int×List de×Int×Int)=>s.2.2.2=(j:Int)/\s.2.2.1=(((L.take k).flatten.length+j:Nat):Int)/\OQ N U ((L.take k).flatten.length+j) s.2.1)
   (λ(r:(Int×List de×Int)⊕((eO×List de×Int×Int)⊕(eO⊕(eO×Int×Int))))=>match r with|.inl x=>x.2.2=(((L.take (k+1)).flatten.length:Nat):Int)/\OQ N U (L.take (k+1)).flatten.length x.2.1|.inr _=>False) p.length (by omega) ⟨rfl,rfl,e3⟩ ?_ ?_) ?_
  ·rintro j ⟨mo,nw,i2,j2⟩ hj ⟨q1,q2,q3⟩;simp only at q1 q2 q3;subst q1;subst q2;have ej:=dR hj;generalize p[j]=y at ej;have hy:N[(L.take k).flatten.length+j]? =some y:=by rw[<-l2];exact qX ek ej
   have hm:=(fT.1 hy).1;have eu:=dR (show(L.take k).flatten.length+j<U.length by omega);generalize U[(L.take k).flatten.length+j]'(by omega)=u at eu;have ZC:=hu _ u eu;obtain⟨c,rfl⟩: ∃c:Nat,u=(c:Int)+1:=⟨(u-1).toNat,by omega⟩;have hc5:c<5:=by omega
   obtain⟨hn5,hnw⟩:=q3;have ez:=dR (show c<nw.length by omega);generalize nw[c]'(by omega)=z at ez;have hz:z.dK=0\/(F1 z/\z.cP≠y.cP):=by
    rcases hnw c z ez with h|⟨m,m1,m2,m3⟩
    ·exact .inl h
    ·exact .inr ⟨hN.v m z m2,hd _ m y z _ m1 hy m2 eu m3⟩
   obtain⟨r,r1,r2,r3⟩:=f20_ex h5 (by omega) ez (hN.v _ y hy) hz;simp only[dr ej,dt,cJ ej,dm,cJ eu,r1,r2,qc,dD,r3];refine py ⟨fH (by omega),fH (by omega),by simpa using hn5,λj' z' Ge=>?_⟩;by_cases Xr:c=j'
   ·subst Xr;rw[Gu (by omega)]at Ge;cases Ge;exact .inr ⟨_,by omega,hy,eu⟩
   ·rw[DR Xr]at Ge;rcases hnw j' z' Ge with h|⟨m,m1,m2,m3⟩
    ·exact .inl h
    ·exact .inr ⟨m,by omega,m2,m3⟩
  ·rintro⟨mo,nw,i2,j2⟩ ⟨q1,q2,q3⟩;simp only at q1 q2 q3;subst q1;subst q2;simp only[jb (show¬(p.length:Int)<(p.length:Int)by omega),dD];exact⟨_,rfl,by show(((L.take k).flatten.length+p.length:Nat):Int)=_;rw[pI],by show OQ N U (L.take (k+1)).flatten.length nw;rw[pI];exact q3⟩
  ·rintro(⟨mo,nw,i2⟩|x) hx
   ·obtain⟨x1,x2⟩:=hx;simp only at x1 x2;subst x1;have Zu:0<p.length:=Pu.2 hpn;have e0:=dR Zu;generalize p[0]=y0 at e0;obtain⟨r,r1,r2⟩:=f21_ex x2.1 y0.cy;have vp:ix p 0=some y0:=QT 0 rfl e0;simp only[vn,vp,dm,r1];refine UZ (λhd=>?_) λ_=>py ⟨fH (by omega),rfl,x2⟩;have:(10:Int)<r:=Rf hd;omega
   ·exact hx.elim
 ·rintro⟨v,now,i,ik⟩ ⟨e1,e2,e3⟩;simp only at e1 e2 e3;subst e1;simp only[jb (show¬(L.length:Int)<(L.length:Int)by omega),dD];exact⟨_,rfl,trivial⟩
 ·rintro(v|x) hx
  ·simp only[vn];have h22: ∃q,f22 U=some q/\True:=by
    unfold f22;refine sV (kZ (λ_=>iH) λ_=>B0 (by unfold bQ;omega) iH) λ_=>iH
   obtain⟨q,q1,_⟩:=h22;rw[q1];exact⟨_,rfl,rfl⟩
  ·exact⟨x,rfl,hx⟩
structure OR (P:List (List cj)) (sh:Int) (s:dX) (N:List de) (m j:Nat) (pj:List cj) (ev:Int) (pp:List cj):Prop where
 le:pj.length<=pp.length
 has: ∀(k:Nat)x,pp[k]? =some x->(k<pj.length↔ ∃m' y,m'<m/\qm P sh s N m' j k x y)
 eq: ∀(k:Nat)q,pj[k]? =some q-> ∃x,pp[k]? =some x/\q.cw=wr (x.cw+sh)/\q.cy=x.cy/\x.dK<=q.dK
 last: ∀k,pj.length=k+1-> ∃m' x y,qm P sh s N m' j k x y/\ev=y.cP
section
variable {P:List (List cj)} {a:bY} {sh:Int} {s:dX} {N:List de}
theorem DK(h:kh P a sh s)(jT:s.eA=[]){m i k i' k':Nat}{x x':cj}{y y':de}(ho:qm P sh s N m i k x y)(qo:qm P sh s N m i' k' x' y'):i'=i/\k'=k:=by
 have:=ho.ny;rw[qo.ny]at this;cases this;obtain⟨p,p1,p2⟩:=qo.co;exact F2 h jT ho qo.tn p1 (by rw[qo.fr]) p2
theorem OR.keep(h:kh P a sh s)(jT:s.eA=[]){m i k j:Nat}{x:cj}{y:de}{pj pp:List cj}{ev:Int}(hv:OR P sh s N m j pj ev pp)(ho:qm P sh s N m i k x y)(oI:i≠j):OR P sh s N (m+1) j pj ev pp:=by
 refine⟨hv.le,λk' x' hk=>⟨λhl=>?_,λ⟨m',y',hm,qo⟩=>?_⟩,hv.eq,hv.last⟩
 ·obtain⟨m',y',h1,h2⟩:=(hv.has k' x' hk).1 hl;exact⟨m',y',by omega,h2⟩
 ·rcases Ch m' m with q|q
  ·exact(hv.has k' x' hk).2 ⟨m',y',q,qo⟩
  ·have:m'=m:=by omega
   subst this;exact absurd (DK h jT ho qo).1.symm oI
theorem OR.next(h:kh P a sh s)(jT:s.eA=[])(hN:lS s.ck N){m i k:Nat}{x:cj}{y:de}{pi pp:List cj}{ev:Int}(hv:OR P sh s N m i pi ev pp)(ho:qm P sh s N m i k x y)(hp:P[i]? =some pp):pi.length=k:=by
 obtain⟨U1,g1,g2⟩:=mr ho.tn;rw[hp]at g1;cases g1;have hk:=(fT.1 g2).1;have h1: ¬k<pi.length:=λhl=>by
  obtain⟨m',y',q1,q2⟩:=(hv.has k x g2).1 hl;have:=F3 h hN ho q2;omega
 have h2: ¬pi.length<k:=λhl=>by
  have e:=dR (show pi.length<pp.length by omega);generalize pp[pi.length]'(by omega)=x0 at e;obtain⟨m0,y0,Yd⟩:=Aw h jT hN (DH hp e);have:=(yg h Yd ho hl).1;have:=(hv.has _ x0 e).2 ⟨m0,y0,this,Yd⟩;omega
 omega
theorem OR.push(h:kh P a sh s)(jT:s.eA=[])(hN:lS s.ck N){m i k:Nat}{x:cj}{y:de}{pi OS pp:List cj}{ev:Int}(hv:OR P sh s N m i pi ev pp)(ho:qm P sh s N m i k x y)(hp:P[i]? =some pp)
  (hl:OS.length=pi.length) (he: ∀(k:Nat)q,OS[k]? =some q-> ∃x,pp[k]? =some x/\q.cw=wr (x.cw+sh)/\q.cy=x.cy/\x.dK<=q.dK):OR P sh s N (m+1) i (OS++[⟨y.cw,y.cy,y.dK⟩]) y.cP pp:=by
 have hk:=hv.next h jT hN ho hp;obtain⟨U1,g1,g2⟩:=mr ho.tn;rw[hp]at g1;cases g1;have Uh:=(fT.1 g2).1;refine⟨by simp;omega,λk' x' ky=>⟨λgl=>?_,λ⟨m',y',hm,qo⟩=>?_⟩,λk' q hq=>?_,λk' ky=>?_⟩
 ·simp only[lu,Pw,hl,hk]at gl;rcases Ch k' k with q|q
  ·obtain⟨m',y',q1,q2⟩:=(hv.has k' x' ky).1 (by omega);exact⟨m',y',by omega,q2⟩
  ·have:k'=k:=by omega
   subst this;rw[g2]at ky;cases ky;exact⟨m,y,by omega,ho⟩
 ·simp only[lu,Pw,hl,hk];rcases Ch m' m with q|q
  ·have:=(hv.has k' x' ky).2 ⟨m',y',q,qo⟩;omega
  ·have:m'=m:=by omega
   subst this;have:=(DK h jT ho qo).2;omega
 ·rcases Ch k' OS.length with q1|q1
  ·rw[nD q1]at hq;exact he k' q hq
  ·rw[qb q1]at hq;have hk2:=(fT.1 hq).1;simp at hk2;have hk3:k'=k:=by omega
   subst hk3;rw[show k'-OS.length=0 by omega]at hq;simp at hq;subst hq;exact⟨x,g2,ho.pc,ho.fr,ho.to⟩
 ·simp only[lu,Pw,hl,hk]at ky;have:k'=k:=by omega
  subst this;exact⟨m,x,y,ho,rfl⟩
theorem f8_ok(h:kh P a sh s)(jT:s.eA=[])(hN:lS s.ck N)(hV:wo N)(hP1:1<=P.length)(hP5:P.length<=5){U:List Int}(hU:U.length=N.length)(hu: ∀m i k x y,qm P sh s N m i k x y->U[m]? =some ((i:Int)+1)):
  ∃r,f8 N U (P.length:Int)=some r/\(r.2=0/\r.1.length=P.length/\ ∀(j:Nat)pj pp,r.1[j]? =some pj->P[j]? =some pp->pj.length=pp.length/\ ∀(k:Nat)q x,pj[k]? =some q->pp[k]? =some x->q.cw=wr (x.cw+sh)/\q.cy=x.cy/\x.dK<=q.dK):=by
 unfold f8;rw[f23_ok hV];have dJ:=hV.len;have i1:om (P.length:Int) 1 5=true:=by simp[om];omega
 have n1:(0:Int)<=(P.length:Int):=by omega
 have n2:(P.length:Int)<=(bQ:Int):=by unfold bQ;omega
 have n3:((P.length:Nat):Int).toNat<=cU:=by rw[oD];unfold cU;omega
 simp only[dm,rz,xb,fq,dD,hU,f24_eq,i1,qc,cX n1,cX n2,cX n3];rw[oD];refine fc (λm t=>t.2.2=(m:Int)/\t.1.length=P.length/\t.2.1.length=P.length/\ ∀(j:Nat)pj ev pp,t.1[j]? =some pj->t.2.1[j]? =some ev->P[j]? =some pp->OR P sh s N m j pj ev pp)
  (λr=>match r with|.inl l=>l.length=P.length/\ ∀(j:Nat)pj pp,l[j]? =some pj->P[j]? =some pp-> ∃ev,OR P sh s N N.length j pj ev pp|.inr _=>False) N.length (by omega) ⟨rfl,by simp,by simp,?_⟩ ?_ ?_ ?_
 ·intro j pj ev pp h1 h2 h3;obtain rfl:pj=[]:=by
   have:=gT h1;exact Lx this
  exact⟨by simp,λk x hk=>⟨λhl=>by simp at hl,λ⟨m',_,hm,_⟩=>by omega⟩,λk q hq=>by simp at hq,λk hk=>by simp at hk⟩
 ·rintro m ⟨l,E,ix0⟩ hm ⟨e1,e2,e3,e4⟩;simp only at e1 e2 e3 e4;subst e1;have ey:=dR hm;generalize N[m]=y at ey;obtain⟨i,k,x,y',ho⟩:=Ax h jT hN hm;have:y'=y:=by have:=ho.ny;rw[ey]at this;cases this;rfl
  subst this;have eu:=hu m i k x y' ho;obtain⟨pp,g1,g2⟩:=mr ho.tn;have hi:=(fT.1 g1).1;have i2:om ((i:Int)+1) 1 (P.length:Int)=true:=by simp[om];omega
  have w:wr ((i:Int)+1-1)=(i:Int):=by rw[iZ (by omega) (by omega)];omega
  have el:=dR (show i<l.length by omega);generalize l[i]'(by omega)=pi at el;have ee:=dR (show i<E.length by omega);generalize E[i]'(by omega)=ev at ee;have hv:=e4 i pi ev pp el ee g1;have hk:=hv.next h jT hN ho g1;have n4:i<cU:=by unfold cU;omega
  have Ye:pp.length<=400:=((kJ h.pr).2 pp (gT g1)).1;have eP:=hv.le;simp only[dr ey,dt,cJ ey,dm,cJ eu,i2,qc,dD,w,cJ el,oD,cX n4];have fin: ∀OS,OS.length=pi.length->(∀(k:Nat)q,OS[k]? =some q-> ∃x,pp[k]? =some x/\q.cw=wr (x.cw+sh)/\q.cy=x.cy/\x.dK<=q.dK)->
    ∀(j:Nat)pj ZD U1,((l.set i OS).set i (OS++[⟨y'.cw,y'.cy,y'.dK⟩]))[j]? =some pj->(E.set i y'.cP)[j]? =some ZD->P[j]? =some U1->OR P sh s N (m+1) j pj ZD U1:=by
   intro OS hl he j pj ZD U1 h1 h2 h3;rw[List.set_set]at h1;by_cases oI:i=j
   ·subst oI;rw[Gu (by omega)]at h1 h2;cases h1;cases h2;rw[g1]at h3;cases h3;exact hv.push h jT hN ho g1 hl he
   ·rw[DR oI]at h1 h2;exact(e4 j pj ZD U1 h1 h2 h3).keep h jT ho oI
  rcases VW pi.length with hz|hz
  ·have d0:decide (0<(pi.length:Int))=false:=jb (by omega);have n5:pi.length+1<=bQ:=by unfold bQ;omega
   simp only[d0,dD,dm,vn,cJ el,cX n5,cJ ee];refine py ⟨fH (by omega),by simpa using e2,by simpa using e3,?_⟩;have wK:l.set i pi=l:=by
    apply SB;intro q;by_cases hq:i=q
    ·subst hq;rw[Gu (by omega),el]
    ·rw[DR hq]
   have:=fin pi rfl hv.eq;rw[wK]at this;exact this
  ·obtain⟨k1,XD⟩: ∃k1,pi.length=k1+1:=⟨pi.length-1,by omega⟩;obtain⟨m1,x1,y1,SX,IB⟩:=hv.last k1 XD;obtain⟨a1,a2,a3⟩:=yg h SX ho (by omega);have d0:decide (0<(pi.length:Int))=true:=sB (by omega);have d1:decide (ev=y'.cP)=false:=jb (by omega);have w1:wr ((pi.length:Int)-1)=(k1:Int):=by rw[iZ (by omega) (by omega)];omega
   have eq:=dR (show k1<pi.length by omega);generalize pi[k1]'(by omega)=q at eq;have fF: ∀q':cj,(l.set i (pi.set k1 q'))[i]? =some (pi.set k1 q'):=λq'=>Gu (by omega);have n5: ∀q':cj,(pi.set k1 q').length+1<=bQ:=λq'=>by unfold bQ;simp;omega
   simp only[d0,dt,cJ ee,dm,d1,dD,w1,cJ eq,oD,vn,cJ (fF _),cX (n5 _)];refine py ⟨fH (by omega),by simpa using e2,by simpa using e3,?_⟩;refine fin _ (by simp) λk' q' VO=>?_;by_cases VR:k1=k'
   ·subst VR;rw[Gu (by omega)]at VO;cases VO;obtain⟨x2,b1,b2,b3,b4⟩:=hv.eq k1 q eq;have hx:x2=x1:=by
     obtain⟨pp2,c1,c2⟩:=mr SX.tn;rw[g1]at c1;cases c1;rw[b1]at c2;cases c2;rfl
    subst hx;refine⟨x2,b1,b2,b3,?_⟩;show x2.dK<=yR q.dK y'.cy;unfold yR;split<;>omega
   ·rw[DR VR]at VO;exact hv.eq k' q' VO
 ·rintro⟨l,E,ix0⟩ ⟨e1,e2,e3,e4⟩;simp only at e1 e2 e3 e4;subst e1;simp only[jb (show¬(N.length:Int)<(N.length:Int)by omega),dD];refine⟨_,rfl,e2,λj pj pp h1 h2=>?_⟩;have hj:=(fT.1 h1).1;have ee:=dR (show j<E.length by omega);exact⟨_,e4 j pj _ pp h1 ee h2⟩
 ·rintro(l|x) hx
  ·obtain⟨x1,x2⟩:=hx;have n6:l.length<=cU:=by unfold cU;omega
   simp only[vn,cX n6];refine⟨_,rfl,rfl,x1,λj pj pp h1 h2=>?_⟩;obtain⟨ev,hv⟩:=x2 j pj pp h1 h2;have eP:=hv.le;have JS:pp.length<=pj.length:=by
    rcases VW pp.length with q|q
    ·omega
    ·have e:=dR (show pp.length-1<pp.length by omega);generalize pp[pp.length-1]'(by omega)=x0 at e;obtain⟨m0,y0,Yd⟩:=Aw h jT hN (DH h2 e);have:=(hv.has _ x0 e).2 ⟨m0,y0,(fT.1 Yd.ny).1,Yd⟩;omega
   refine⟨by omega,λk q x hq hx=>?_⟩;obtain⟨x',b1,b2⟩:=hv.eq k q hq;rw[hx]at b1;cases b1;exact b2
  ·exact hx.elim
end
theorem OT{l:List (List cj)}{k:Nat}{p:List cj}(h:l[k]? =some p):((l.take (k+1)).map List.length).sum=((l.take k).map List.length).sum+p.length:=by
 rw[dj h];simp
theorem F4(l:List (List cj))(k:Nat):((l.take k).map List.length).sum<=(l.map List.length).sum:=by
 have:=Lk k l;conv=>rhs;rw[<-this]
 rw[Cf,List.sum_append];omega
theorem Ie{l:List (List cj)}: ∀{p},p∈l->p.length<=(l.map List.length).sum:=by
 induction l with
 |nil=>intro p h;simp at h
 |cons q l ih=>
  intro p h;simp only[wy,SA];rcases mZ.1 h with rfl|h
  ·omega
  ·have:=ih h;omega
theorem f10_ex(P:List (List cj))(h1:P.length<=1048576)(h2:(P.map List.length).sum<=1048576): ∃b,f10 P=some b/\(b=true->P.length<=3/\ ∀p∈P,p.length<=12):=by
 unfold f10;refine fc (λk s=>s.2=(k:Int)/\s.1=(((P.take k).map List.length).sum:Nat)) (λr=>r=((P.map List.length).sum:Nat)) P.length (by omega) ⟨rfl,by simp⟩ ?_ ?_ ?_
 ·rintro k ⟨c,i⟩ hk ⟨e1,e2⟩;simp only at e1 e2;subst e1;subst e2;have e:=dR hk;generalize P[k]=p at e;have hs:=OT e;have eP:=F4 P (k+1);simp only[dr e,dt,cJ e,dm];refine py ⟨fH (by omega),?_⟩;show wr _=_;rw[iZ (by omega) (by omega),hs];omega
 ·rintro⟨c,i⟩ ⟨e1,e2⟩;simp only at e1 e2;subst e1;subst e2;simp only[jb (show¬(P.length:Int)<(P.length:Int)by omega),dD,AN];exact⟨_,rfl,rfl⟩
 ·rintro r rfl;by_cases h3:P.length<=3
  ·simp only[sB (show(P.length:Int)<=3 by omega),dt,dm];refine⟨_,rfl,λhb=>⟨h3,λp hp=>?_⟩⟩;have:=Rf hb;have:=Ie hp;omega
  ·simp only[jb (show¬(P.length:Int)<=3 by omega),dD,dm];exact⟨_,rfl,λhb=>by cases hb⟩
theorem f13_ex(P:List (List cj))(h1:P.length<=3)(h2: ∀p∈P,p.length<=12): ∃r,f13 P=some r/\r=P:=by
 unfold f13;refine fc (λk s=>s.2=(k:Int)/\s.1=P.take k) (λr=>r=P) P.length (by omega) ⟨rfl,by simp⟩ ?_ ?_ ?_
 ·rintro k ⟨c,i⟩ hk ⟨e1,e2⟩;simp only at e1 e2;subst e1;subst e2;have e:=dR hk;generalize P[k]=p at e;have hp:=h2 p (gT e);have n1:p.length<=bQ:=by unfold bQ;omega
  have n2:(P.take k).length<cU:=by unfold cU;simp;omega
  simp only[dr e,dt,cJ e,dm,cX n1,cX n2];have hs:=dj e;refine OO (P1:=λr=>r=P.take (k+1)) (kZ (λhb=>⟨_,rfl,?_⟩) λ_=>⟨_,rfl,hs.symm⟩) λr hr=>py ⟨fH (by omega),hr⟩;rw[hs,List.isEmpty_iff.1 hb]
 ·rintro⟨c,i⟩ ⟨e1,e2⟩;simp only at e1 e2;subst e1;subst e2;simp only[jb (show¬(P.length:Int)<(P.length:Int)by omega),dD,AN];exact⟨_,rfl,rfl⟩
 ·rintro r rfl;have n1:r.length<=cU:=by unfold cU;omega
  rw[cX n1];exact⟨_,rfl,rfl⟩
theorem f4_ex(x:jW)(h1:x.cR.length<=1048576)(h2:(x.cR.map List.length).sum<=1048576): ∃r,f4 x=some r/\(r.2=true->x.cR.length<=3/\ ∃a,kh x.cR a x.shift r.1):=by
 unfold f4;by_cases ht:x.text.size<=400
 ·have d0:decide (400<(x.text.size:Int))=false:=jb (by omega);obtain⟨b,b1,b2⟩:=f10_ex x.cR h1 h2;simp only[d0,dD,b1,dm];cases b with
  |false=>exact⟨_,rfl,λh=>by cases h⟩
  |true=>
   obtain⟨g1,g2⟩:=b2 rfl;simp only[qc,dD];refine fR (f11_ex x.text (by omega)) λq _=>fR (P1:=λ_=>True) (kZ (λ_=>iH) λ_=>iH) λj _=>kZ (λ_=>⟨_,rfl,λh=>by cases h⟩) λ_=>fR (f13_ex x.cR g1 g2) λP hP=>?_;subst hP;refine fR (f12_gen x.cR q.1 x.hand x.shift (by simp only[cH];omega) λ_=>by omega) λr hr=>⟨_,rfl,λh=>⟨g1,q.1,hr (Rf h)⟩⟩
 ·have d0:decide (400<(x.text.size:Int))=true:=sB (by omega);simp only[d0,dt,dm];exact⟨_,rfl,λh=>by cases h⟩
theorem f5_eq:f5=some true:=by kernel_rfl
section
variable {P:List (List cj)} {a:bY} {sh:Int} {s:dX} {N:List de}
def Ay(i0 k0 i k:Nat):Int:=if i0<i\/(i0=i/\k0<k)then(i0:Int)+1 else 0
theorem U3(h:kh P a sh s){i:Nat}{p:List cj}(hp:P[i]? =some p): ∃w,s.gO[i]? =some w/\w.length=p.length:=by
 obtain⟨T,L,X,fF,_⟩:=h.set;have:=fF.ws;unfold D3 at this;have h1:=fC (λl=>l[i]?) this;simp only[sW,hp,gX]at h1;obtain⟨w,w1,w2⟩:=D5.1 h1;exact⟨w,w1,w2⟩
theorem U4(n:Nat)(hn:n<=1000): ∃r,cA (σ:=(List Int×List Int×Int)) (τ:=(List Int×List Int)) (λ((DL,DM,Yf):(List Int×List Int×Int))=>bif (decide (Yf<(n:Int)))then(cB (DL.length+1<=bQ)<|cB (DM.length+1<=bQ)<|some (.inl ((DL++([0]:List Int)),(DM++([127]:List Int)),(wr (Yf+1)))))else(some (.inr (DL,DM)))) cQ (([]:List Int),([]:List Int),0)=some r/\r=(List.replicate n 0,List.replicate n 127):=by
 refine jQ (λk s=>s=(List.replicate k 0,List.replicate k 127,(k:Int))) (λr=>r=(List.replicate n 0,List.replicate n 127)) n (by omega) rfl ?_ ?_
 ·rintro k t hk rfl;have d:decide ((k:Int)<(n:Int))=true:=sB (by omega);simp only[d,dt];refine Q8 (by unfold bQ;simp;omega) (Q8 (by unfold bQ;simp;omega) (py ?_));rw[fH (by omega),List.replicate_succ',List.replicate_succ']
 ·rintro t rfl;simp only[jb (show¬(n:Int)<(n:Int)by omega),dD];exact⟨_,rfl,rfl⟩
end
theorem f3_eq(x:jW)(h1:x.cR.length<=1048576)(h2:(x.cR.map List.length).sum<=1048576):f3 x=some true:=by
 have key: ∃b,f3 x=some b/\b=true:=by
  unfold f3;refine fR (f4_ex x h1 h2) λr hr=>?_;obtain⟨s,b⟩:=r;simp only at hr |-
  have f5X: ∃z,(f5.bind λr5=>some r5)=some z/\z=true:=by rw[f5_eq];exact⟨_,rfl,rfl⟩
  cases b with
  |false=>exact f5X
  |true=>
   obtain⟨g3,a,h⟩:=hr rfl;simp only[qc,dD];by_cases jT:s.eA=[]
   case neg=>
    have d:decide (0<(s.eA.length:Int))=true:=sB (by have:=Pu.2 jT;omega);simp only[d,dt,dm];exact f5X
   have d:decide (0<(s.eA.length:Int))=false:=jb (by rw[jT];simp);simp only[d,dD,dm];by_cases hP0:x.cR.length=0
   ·simp only[sB (show(x.cR.length:Int)=0 by omega),dt];exact f5X
   simp only[jb (show¬(x.cR.length:Int)=0 by omega),dD];obtain⟨T,L,X,fF,_⟩:=h.set;have hai:=h.ai;have IB:lM s.ck.instrument s.ck.bP:=by rw[hai];exact fF.ev
   have fB:instS s.ck.instrument=0:=by rw[hai];exact h.ins
   obtain⟨N,n1,n2⟩:=f6_y s.ck fB IB h.el;have hN:lS s.ck N:=n2;rw[n1];simp only[dm,rz,xb,fq,dD];have hV:wo N:=⟨by
    have e1:=hN.1;have e2:=DG fF.ev s.ck.bP.length;have e3:=h.el;omega,λm y hy=>U2 h jT hN hy,λm y y' hy Ee=>Lh h hN hy Ee⟩
   have dJ:=hV.len;refine fR (U4 x.cR.length (by omega)) λlm UP=>?_;subst UP;simp only;refine fc (λm t=>t.2=(m:Int)/\t.1.length=m/\ ∀m' i k x' y,m'<m->qm x.cR x.shift s N m' i k x' y->t.1[m']? =some ((i:Int)+1)) (λU=>U.length=N.length/\ ∀m i k x' y,qm x.cR x.shift s N m i k x' y->U[m]? =some ((i:Int)+1)) N.length (by omega) ⟨rfl,rfl,λm' i k x' y hm=>by omega⟩ ?_ ?_ ?_
   ·rintro m ⟨U,t⟩ hm ⟨e1,e2,e3⟩;simp only at e1 e2 e3;subst e1;have ey:=dR hm;generalize N[m]=y at ey;obtain⟨i0,k0,x0,y0,ho⟩:=Ax h jT hN hm;have:y0=y:=by have:=ho.ny;rw[ey]at this;cases this;rfl
    subst this;obtain⟨pp0,c1,c2⟩:=mr ho.tn;have Y8:=(fT.1 c1).1;have Uu:=(fT.1 c2).1;simp only[dr ey,dt];refine OO (P1:=λr=>r=(i0:Int)+1) (jQ (λi(t:Int×Int)=>t.2=(i:Int)/\t.1=Ay i0 k0 i 0) (λr=>r=(i0:Int)+1) x.cR.length (by omega) ⟨rfl,by unfold Ay;rw[dY (by omega)]⟩ ?_ ?_) λr hr=>Q8 (by unfold bQ;omega) (py ⟨fH (by omega),by simp;omega,λm' i k x' y' oG qo=>?_⟩)
    ·rintro i ⟨c,t⟩ hi ⟨q1,q2⟩;simp only at q1 q2;subst q1;subst q2;have ei:=dR hi;generalize x.cR[i]=pp at ei;obtain⟨w,w1,w2⟩:=U3 h ei;have Ye:pp.length<=400:=((kJ h.pr).2 pp (gT ei)).1;simp only[dr ei,dt];refine OO (P1:=λr=>r=Ay i0 k0 (i+1) 0) (jQ (λk(t:Int×Int)=>t.2=(k:Int)/\t.1=Ay i0 k0 i k) (λr=>r=Ay i0 k0 (i+1) 0) pp.length (by omega) ⟨rfl,rfl⟩ ?_ ?_) λr hr=>py ⟨fH (by omega),hr⟩
     ·rintro k ⟨c,t⟩ hk ⟨q1,q2⟩;simp only at q1 q2;subst q1;subst q2;have ek:=dR hk;generalize pp[k]=xx at ek;have ew:=dR (show k<w.length by omega);generalize w[k]'(by omega)=pl at ew;have dk:decide ((k:Int)<(w.length:Int))=true:=sB (by omega);simp only[cJ ei,dm,dr ek,dt,cJ w1,dk,cJ ek,cJ ey,cJ ew];have hit:(xx.cy=y0.cy/\pl.aY=y0.aY)↔(i=i0/\k=k0):=by
       constructor
       ·rintro⟨u1,u2⟩;have:=F2 h jT ho (DH ei ek) (FZ w1 ew) u1 u2;exact this
       ·rintro⟨rfl,rfl⟩;rw[ei]at c1;cases c1;rw[ek]at c2;cases c2;obtain⟨p,p1,p2⟩:=ho.co;have:=FZ w1 ew;rw[p1]at this;cases this;exact⟨ho.fr.symm,p2⟩
      refine OO (P1:=λr=>r=Ay i0 k0 i (k+1)) ?_ λr hr=>py ⟨fH (by omega),hr⟩;by_cases u1:xx.cy=y0.cy
      ·by_cases u2:pl.aY=y0.aY
       ·obtain⟨rfl,rfl⟩:=hit.1 ⟨u1,u2⟩;simp only[sB u1,sB u2,dt,dm];refine⟨_,rfl,?_⟩;unfold Ay;rw[dP (by omega),iZ (by omega) (by omega)]
       ·have eU: ¬(i=i0/\k=k0):=λe=>u2 (hit.2 e).2;simp only[sB u1,jb u2,dt,dD,dm];refine⟨_,rfl,?_⟩;unfold Ay;by_cases hc:i0<i\/(i0=i/\k0<k)
        ·rw[dP hc,dP (by omega)]
        ·rw[dY hc,dY (by omega)]
      ·have eU: ¬(i=i0/\k=k0):=λe=>u1 (hit.2 e).1;simp only[jb u1,dD,dm];refine⟨_,rfl,?_⟩;unfold Ay;by_cases hc:i0<i\/(i0=i/\k0<k)
       ·rw[dP hc,dP (by omega)]
       ·rw[dY hc,dY (by omega)]
     ·rintro⟨c,t⟩ ⟨q1,q2⟩;simp only at q1 q2;subst q1;subst q2;simp only[cJ ei,dm,jb (show¬(pp.length:Int)<(pp.length:Int)by omega),dD];refine⟨_,rfl,?_⟩;have VR:i0=i->k0<pp.length:=λe=>by subst e;rw[ei]at c1;cases c1;exact Uu
      unfold Ay;by_cases hc:i0<i\/(i0=i/\k0<pp.length)
      ·rw[dP hc,dP (by omega)]
      ·rw[dY hc,dY (by omega)]
    ·rintro⟨c,t⟩ ⟨q1,q2⟩;simp only at q1 q2;subst q1;subst q2;simp only[jb (show¬(x.cR.length:Int)<(x.cR.length:Int)by omega),dD];refine⟨_,rfl,?_⟩;unfold Ay;rw[dP (by omega)]
    ·rcases Ch m' m with q|q
     ·show(U++[r])[m']? =_;rw[nD (by omega)];exact e3 m' i k x' y' q qo
     ·have:m'=m:=by omega
      subst this;obtain⟨rfl,rfl⟩:=DK h jT ho qo;show(U++[r])[m']? =_;rw[qb (by omega),e2,Pt,hr];rfl
   ·rintro⟨U,t⟩ ⟨e1,e2,e3⟩;simp only at e1 e2 e3;subst e1;simp only[jb (show¬(N.length:Int)<(N.length:Int)by omega),dD];exact⟨_,rfl,e2,λm i k x' y ho=>e3 m i k x' y (fT.1 ho.ny).1 ho⟩
   ·rintro U ⟨hU,Yg⟩;have ZC: ∀(m:Nat)u,U[m]? =some u-> ∃i k x' y,qm x.cR x.shift s N m i k x' y/\u=(i:Int)+1/\i<x.cR.length:=λm u hu=>by
     have hm:=(fT.1 hu).1;obtain⟨i,k,x',y,ho⟩:=Ax h jT hN (show m<N.length by omega);have:=Yg m i k x' y ho;rw[hu]at this;cases this;obtain⟨pp,c1,_⟩:=mr ho.tn;exact⟨i,k,x',y,ho,rfl,(fT.1 c1).1⟩
    obtain⟨v,v1,v2⟩:=f7_ok (n:=x.cR.length) (N:=N) (U:=U) (by omega) (by omega) hV hU (λm u hu=>by
     obtain⟨i,_,_,_,_,rfl,hi⟩:=ZC m u hu;omega) (λm m' y y' u hm hy Ee hu YA=>by
     obtain⟨i,k,x1,y1,o1,rfl,_⟩:=ZC m u hu;obtain⟨i',k',x2,y2,o2,e,_⟩:=ZC m' _ YA;have:i'=i:=by omega
     subst this;have e1:=o1.ny;rw[hy]at e1;cases e1;have e2:=o2.ny;rw[Ee]at e2;cases e2;rcases Gt k' k with q|q|q
     ·have:=(yg h o2 o1 q).2.1;omega
     ·subst q;have:=F3 h hN o1 o2;omega
     ·have:=(yg h o1 o2 q).1;omega)
    have hUe:U.isEmpty=N.isEmpty:=by
     cases U<;>cases N<;>first|rfl|(simp at hU)
    have nU:U.length<=bQ:=by unfold bQ;omega
    have nN:N.length<=bQ:=by unfold bQ;omega
    have aa4:(⟨List.replicate x.cR.length 0,List.replicate x.cR.length 127,127,262144,10⟩:gj)=Bo x.cR.length:=rfl;rw[aa4,hUe,cX nU,cX nN];refine fR (P1:=λr=>r=0) ?_ λj hj=>?_
    ·cases eU:N.isEmpty with
     |true=>
      have e1:N=[]:=List.isEmpty_iff.1 eU;have e2:U=[]:=by rw[eU]at hUe;exact List.isEmpty_iff.1 hUe
      rw[e1,e2]at v1;simp only[dt,v1,dm];exact⟨_,rfl,v2⟩
     |false=>
      simp only[dD,v1,dm];exact B0 (by unfold bQ;omega) ⟨_,rfl,v2⟩
    subst hj;obtain⟨r,r1,r2,r3,r4⟩:=f8_ok h jT hN hV (by omega) (by omega) hU Yg;rw[r1,dm];have d1:decide ((r.1.length:Int)≠(x.cR.length:Int))=false:=jb (by omega);simp only[r2,rz,xb,fq,dD,dm];simp only[rz]at d1;rw[d1];simp only[dD];refine fc (λk t=>t=(k:Int)) (λr=>match r with|.inl _=>True|.inr _=>False) r.1.length (by omega) rfl ?_ ?_ ?_
    ·rintro j t hj rfl;have e1:=dR hj;generalize r.1[j]=pj at e1;have e2:=dR (show j<x.cR.length by omega);generalize x.cR[j]'(by omega)=pp at e2;obtain⟨z1,z2⟩:=r4 j pj pp e1 e2;have Ye:pp.length<=400:=((kJ h.pr).2 pp (gT e2)).1;have d2:decide ((pj.length:Int)≠(pp.length:Int))=false:=jb (by omega);simp only[rz]at d2;simp only[dr e1,dt,cJ e1,cJ e2,dm,rz,d2,dD];refine OO (P1:=λ(r:Unit⊕(Int⊕(Unit⊕Bool)))=>match r with|.inl _=>True|.inr _=>False) (jQ (λk(t:Int)=>t=(k:Int)) (λ(r:Unit⊕(Int⊕(Unit⊕Bool)))=>match r with|.inl _=>True|.inr _=>False) pj.length (by omega) rfl ?_ ?_) ?_
     ·rintro k t hk rfl;have e3:=dR hk;generalize pj[k]=q at e3;have e4:=dR (show k<pp.length by omega);generalize pp[k]'(by omega)=xx at e4;obtain⟨y1,y2,y3⟩:=z2 k q xx e3 e4;simp only[dr e3,dt,cJ e3,cJ e4,dm,y1,y2,rz,xb,fq,dD,jb (show¬q.dK<xx.dK by omega)];exact py (fH (by omega))
     ·rintro t rfl;simp only[jb (show¬(pj.length:Int)<(pj.length:Int)by omega),dD];exact⟨_,rfl,trivial⟩
     ·rintro(_|x) hx
      ·exact py (fH (by omega))
      ·exact hx.elim
    ·rintro t rfl;simp only[jb (show¬(r.1.length:Int)<(r.1.length:Int)by omega),dD];exact⟨_,rfl,trivial⟩
    ·rintro(_|x) hx
     ·simp only[vn];rw[f9_y s.ck fB IB h.el];have d3:decide (0<((xy s.ck.bP).length:Int))=true:=sB (by rw[FY];omega);simp only[dm,ij,dt,d3,f5_eq];exact⟨_,rfl,rfl⟩
     ·exact hx.elim
 obtain⟨b,hb,rfl⟩:=key;exact hb
end Go.Proofs.YtfdnjgoegamonaaGreatDoor
