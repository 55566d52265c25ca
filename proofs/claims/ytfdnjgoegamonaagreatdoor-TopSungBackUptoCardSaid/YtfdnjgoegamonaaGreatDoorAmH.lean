/- A block of one's own, or a part of it, LENT to a function that computes: for the call it is immutable, and behind it one's own again. The answer must be a number or a truth value (so that it cannot name what was lent). -/
import Derived.Test.YtfdnjgoegamonaaGreatDoorAmG
set_option linter.all false
namespace Go.Am
open Go.RowKit
def Je:AV->Bool
 |.int _ _=>true
 |.bool _=>true
 |_=>false
theorem QB{G G':cx}{x:AV}{v:Value}(hx:Je x=true)(h:V G x v):V G' x v:=by
 cases x<;>simp[Je]at hx
 ·cases h;exact .bool _
 ·cases h;exact .int _ _
def QC(s:St)(args j7:List AV):Prop:= ∀G w vs,eQ G s w->VL G args vs-> ∃G',eQ G' ⟨[],s.cr⟩ w/\VL G' j7 vs
theorem E8{P:Program}{f:FuncId}{args j7:List AV}{x:AV}{s:St}(hl:QC s args j7)(hx:Je x=true)(hf:dQ P f j7 ⟨[],s.cr⟩ λy t=>y=x/\t=⟨[],s.cr⟩):
  dQ P f args s λy t=>y=x/\t=s:=λG w vs hs hv=>by
 obtain⟨G',h1,h2⟩:=hl G w vs hs hv;refine(hf G' w vs h1 h2).mono ?_;rintro e w' ⟨v,G2,y,s2,rfl,hV,hS,hE,rfl,rfl⟩;have hk: ∀b,b<w.heap.size->w'.heap[b]? =w.heap[b]?:=λb hb=>hE.keep b hb (by rintro⟨id,blk,r,hg,_⟩;simp[bJ]at hg);refine⟨v,G,y,s,rfl,QB hx hV,⟨⟨λb o v hi=>?_,hs.kS.2⟩,λid blk hg=>?_,hs.apart,hs.clear,hs.cE,hs.lt⟩,?_,rfl,rfl⟩
 ·have hc:=hs.ir b o v hi;have hb:=Ci hc;rw[World.cell?_of_block (w:=w) (hk b hb)];exact hc
 ·rcases hs.heap id blk hg with⟨r,o,e1,e2,e3⟩|h
  ·refine .inl ⟨r,o,e1,?_,e3⟩;have hb:r.block<w.heap.size:=by
    rcases Ch r.block w.heap.size with h|h
    ·exact h
    ·rw[ZL h]at e2;cases e2
   rw[hk _ hb];exact e2
  ·exact .inr h
 ·exact⟨.refl G,hE.os,hE.tape,hE.output,hE.size,λb hb _=>hk b hb,λ_ _ _ h=>.inl h,λ_ _ h=>.inl h,λ_ _ h=>.inl ⟨_,h⟩,eD _,λ_ h=>h,λ_ _ h=>h,hE.drawn⟩
theorem zH{P:Prop}{G:cx}{s:St}{w:World}(hs:eQ G s w): ∀ks:List Nat,∃G' s',eQ G' s' w/\s'.cr=s.cr/\sJ G G'/\(∀id b,bJ s'.heap id=some b->bJ s.heap id=some b)/\(∀id,id ∉ ks->bJ s'.heap id=bJ s.heap id)/\
  ∀id∈ks,∀cN elems,bJ s.heap id=some (.cells cN elems)->(∀b9 len v,b9+len<=elems.length->V G (.ms id b9 len) v->V G' (.sl false ((elems.drop b9).take len)) v)/\ ∀e v,elems=[e]->V G (.mp id 0 0) v->V G' (.ip e.cells) v
 | []=>⟨G,s,hs,rfl,.refl _,λ_ _ h=>h,λ_ _=>rfl,λ_ h=>by cases h⟩
 |i::ks=>by
  obtain⟨G1,s1,h1,hc,eP,pK,sC,fB⟩:=zH (P:=P) hs ks;by_cases hi:i∈ks
  ·refine⟨G1,s1,h1,hc,eP,pK,λid hid=>sC id (λh=>hid (JO _ h)),λid hid=>?_⟩;rcases mZ.1 hid with rfl|h
   ·exact fB _ hi
   ·exact fB _ h
  ·cases hg:bJ s1.heap i with
   |none=>
    refine⟨G1,s1,h1,hc,eP,pK,λid hid=>sC id (λh=>hid (JO _ h)),λid hid cN elems he=>?_⟩;rcases mZ.1 hid with rfl|h
    ·rw[sC _ hi,he]at hg;cases hg
    ·exact fB _ h cN elems he
   |some b=>
    cases b with
    |cells cN elems=>
     obtain⟨G2,h2,h3,h4,h5⟩:=kz h1 hg (b9:=0) (len:=0) (by omega);refine⟨G2,_,h2,hc,eP.trans h3.le,λid b hb=>?_,λid hid=>?_,λid hid TK elems' he=>?_⟩
     ·rw[fU]at hb;split at hb
      ·cases hb
      ·exact pK _ _ hb
     ·have: ¬(id=i\/id∈ks):=λh=>hid (mZ.2 h);rw[fU,dY (λe=>this (.inl e.symm))];exact sC _ (λh=>this (.inr h))
     ·rcases mZ.1 hid with rfl|h
      ·have e:=pK _ _ hg;rw[he]at e;cases e;exact⟨λst n v hn hv=>h4 st n v hn (hv.mono eP),λe v he hv=>h5 e v he (hv.mono eP)⟩
      ·obtain⟨a,b⟩:=fB _ h TK elems' he;exact⟨λst n v hn hv=>(a st n v hn hv).mono h3.le,λe v he hv=>(b e v he hv).mono h3.le⟩
    |loop l=>
     refine⟨G1,s1,h1,hc,eP,pK,λid hid=>sC id (λh=>hid (JO _ h)),λid hid cN elems he=>?_⟩;rcases mZ.1 hid with rfl|h
     ·have e:=pK _ _ hg;rw[he]at e;cases e
     ·exact fB _ h cN elems he
    |gK=>
     refine⟨G1,s1,h1,hc,eP,pK,λid hid=>sC id (λh=>hid (JO _ h)),λid hid cN elems he=>?_⟩;rcases mZ.1 hid with rfl|h
     ·have e:=pK _ _ hg;rw[he]at e;cases e
     ·exact fB _ h cN elems he
mutual
inductive LV (h:List (Nat×gU)):AV->AV->Prop
 |s {x:AV}:LV h x x
 |p {id cN st n:Nat} {elems:List AV} (hg:bJ h id=some (.cells cN elems)) (hn:st+n<=elems.length):LV h (.ms id st n) (.sl false ((elems.drop st).take n))
 |m {id cN:Nat} {e:AV} (hg:bJ h id=some (.cells cN [e])):LV h (.mp id 0 0) (.ip e.cells)
 |f {g:FuncId} {xs ys:List AV} (hl:QD h xs ys):LV h (.fn g xs) (.fn g ys)
inductive QD (h:List (Nat×gU)):List AV->List AV->Prop
 |z:QD h [] []
 |k {x y:AV} {xs ys:List AV} (hx:LV h x y) (hs:QD h xs ys):QD h (x::xs) (y::ys)
end
theorem QD.len{h:List (Nat×gU)}: ∀{xs ys:List AV},QD h xs ys->xs.length=ys.length
 |_,_,.z=>rfl
 |_,_,.k _ hs=>by simp[hs.len]
mutual
theorem aaH{h:List (Nat×gU)}{G G':cx}(eP:sJ G G')
  (hz: ∀id cN elems,bJ h id=some (.cells cN elems)->(∀b9 len v,b9+len<=elems.length->V G (.ms id b9 len) v->V G' (.sl false ((elems.drop b9).take len)) v)/\ ∀e v,elems=[e]->V G (.mp id 0 0) v->V G' (.ip e.cells) v):
  ∀{x y:AV},LV h x y-> ∀v,V G x v->V G' y v
 |_,_,.s,v,hv=>hv.mono eP
 |_,_,.p hg hn,v,hv=>(hz _ _ _ hg).1 _ _ _ hn hv
 |_,_,.m hg,v,hv=>(hz _ _ _ hg).2 _ _ rfl hv
 |_,_,.f hl,v,hv=>by
  cases hv with
  |fn _ gk vs dJ hc=>
   refine .fn _ _ vs (by rw[<-hl.len];exact dJ) λi y u hy hu=>?_;obtain⟨x,h1,h2⟩:=NF eP hz hl i y hy;exact h2 u (hc i x u h1 hu)
theorem NF{h:List (Nat×gU)}{G G':cx}(eP:sJ G G')
  (hz: ∀id cN elems,bJ h id=some (.cells cN elems)->(∀b9 len v,b9+len<=elems.length->V G (.ms id b9 len) v->V G' (.sl false ((elems.drop b9).take len)) v)/\ ∀e v,elems=[e]->V G (.mp id 0 0) v->V G' (.ip e.cells) v):
  ∀{xs ys:List AV},QD h xs ys-> ∀(i:Nat)y,ys[i]? =some y-> ∃x,xs[i]? =some x/\ ∀v,V G x v->V G' y v
 |_,_,.z,i,y,hy=>by simp at hy
 |_,_,.k hx hs,0,y,hy=>by
  simp at hy;subst hy;exact⟨_,rfl,aaH eP hz hx⟩
 |_,_,.k hx hs,i+1,y,hy=>by
  simp at hy;obtain⟨x,h1,h2⟩:=NF eP hz hs i y hy;exact⟨x,by simpa using h1,h2⟩
end
theorem QC.all{s:St}{h:List (Nat×gU)}(hh: ∀id b,bJ h id=some b->bJ s.heap id=some b){args j7:List AV}(hl:QD h args j7):QC s args j7:=λG w vs hs hv=>by
 obtain⟨G',s',h1,h2,h3,h4,h5,h6⟩:=zH (P:=True) hs (h.map Prod.fst);refine⟨G',h1.drop (λi b hi=>by simp[bJ]at hi) (by rw[h2];exact eD _),by rw[<-hl.len];exact hv.1,λi y u hy hu=>?_⟩;have fB: ∀(h:List (Nat×gU))(id cN:Nat)(elems:List AV),bJ h id=some (.cells cN elems)->id∈h.map Prod.fst:=by
  intro h id cN elems
  induction h with
  |nil=>intro e;simp[di]at e
  |cons p r ih=>
   obtain⟨k,b⟩:=p;intro e;simp only[cZ]at e;split at e
   ·rename_i hk;subst hk;simp
   ·exact JO _ (ih e)
 obtain⟨x,e1,e2⟩:=NF (G':=G') h3 (λid cN elems hg=>h6 id (fB h id cN elems hg) cN elems (hh _ _ hg)) hl i y hy;exact e2 u (hv.2 i x u e1 hu)
section
variable {B:jg} {P:Program} {N:Nat} {ρ:Option Nat} {Q:Exit->Env->St->Prop} {M:TM B.S} {α β:Type} {r:β}
theorem uQ{op:Op}{bX:dU B.S}{g:FuncId}{l:List AV}{x:AV}{s:St}{K:AV->St->Prop}(h:oX B P op bX=some (g,l))(hp:dQ P g l s λy t=>y=x/\t=s)(hk:K x s):ows P op K (eY B bX) s:=by
 unfold oX at h;unfold ows;split at h
 ·rename_i f a hc;split at h
  ·rename_i g' gk hf;split at h
   ·rename_i l' hl;cases he:enters P g' with
    |false=>simp[he]at h
    |true=>
     simp only[he,dt]at h;cases h;simp only[hc,eL,hf,gX,lD,hl,TV.er];refine⟨he,?_⟩;rw[tp]at hp;exact hp.mono λy t ⟨e1,e2⟩=>by subst e1;subst e2;exact hk
   ·cases h
  ·cases h
 ·cases h
theorem KK{g:FuncId}{l:List AV}{v:TV B.S}(h:BJ B P M=some (g,l))(hp:dQ P g l (dA B M.s) λy t=>y=v.er B.E/\t=dA B M.s)(hk:kR B P N ρ Q (YN M v)):kR B P N ρ Q M:=by
 obtain⟨o,k,bX,s⟩:=M;unfold BJ at h;split at h
 ·rename_i l0 y ho;simp only at ho;subst ho;split at h
  ·rename_i i l1;split at h
   ·rename_i hg;show Gg _ _ _ _;refine ze (B:=B) ?_;simp only at hg;rw[hg];have hk:qM P (YK P N ρ Q k y) l1 (eY B (jq i.dst v bX)) (dA B s):=hk;rw[iM]at hk;exact .inl (uQ h hp hk)
   ·cases h
  ·cases h
 ·rename_i l0 n y ho;simp only at ho;subst ho;split at h
  ·rename_i j c i sl l1;split at h
   ·rename_i hg;split at h
    ·rename_i hc;intro hn;show Gj _ _ _ _;refine rT (B:=B) ?_;simp only at hg;rw[hg];have hk:dq P (YK P N ρ Q k y) l1 (vJ B n) (eY B (jq i.dst v bX)) (dA B s):=hk hn;rw[iM]at hk;have:=uQ (K:=λv s'=>xn P (vJ B n) s' c/\dq P (YK P N ρ Q k y) l1 (vJ B n) (fQ i.dst v (eY B bX)) s') (s:=dA B s) h hp ⟨nM hn (λ_=>hn) hc (λp hp=>by cases hp),hk⟩;rw[oW]at this;exact this
    ·cases h
   ·cases h
  ·cases h
 ·cases h
mutual
inductive NG (B:jg) (z:List (Nat×TB B.S)):TV B.S->TV B.S->Prop
 |s {x:TV B.S}:NG B z x x
 |p {id sz c st n:Nat} {xs:List (B.S c)} (hg:bJ z id=some (.lz sz c xs)) (hn:st+n<=xs.length):NG B z (.a (.ms id st n)) (.l false c ((xs.drop st).take n))
 |q {id sz c st n:Nat} {xs:List (B.S c)} (hg:bJ z id=some (.lz sz c xs)) (hn:st+n<=xs.length):NG B z (.pt id st n) (.l false c ((xs.drop st).take n))
 |w {id sz c n:Nat} {xs:List (B.S c)} (hg:bJ z id=some (.lz sz c xs)) (hn:n=xs.length):NG B z (.a (.ms id 0 n)) (.l false c xs)
 |m {id sz:Nat} {x:TV B.S} {l:List (TV B.S)} (hg:bJ z id=some (.cW sz [x])) (hl:eB B.E l=(x.er B.E).cells):NG B z (.a (.mp id 0 0)) (.ip l)
 |f {g:FuncId} {xs ys:List (TV B.S)} (hl:VA B z xs ys):NG B z (.fn g xs) (.fn g ys)
inductive VA (B:jg) (z:List (Nat×TB B.S)):List (TV B.S)->List (TV B.S)->Prop
 |z:VA B z [] []
 |k {x y:TV B.S} {xs ys:List (TV B.S)} (hx:NG B z x y) (hs:VA B z xs ys):VA B z (x::xs) (y::ys)
end
mutual
theorem Xn{z:List (Nat×TB B.S)}: ∀{x y:TV B.S},NG B z x y->LV (kP B z) (x.er B.E) (y.er B.E)
 |_,_,.s=>.s
 |_,_,@NG.p _ _ id sz c st n xs hg hn=>by
  simp only[TV.er,Ly,F9];exact .p (by rw[gi,hg];rfl) (by simpa using hn)
 |_,_,@NG.q _ _ id sz c st n xs hg hn=>by
  simp only[TV.er,Ly,F9];exact .p (by rw[gi,hg];rfl) (by simpa using hn)
 |_,_,@NG.w _ _ id sz c n xs hg hn=>by
  simp only[TV.er];have:=LV.p (h:=kP B z) (st:=0) (n:=(xs.map (B.E c)).length) (by rw[gi,hg];rfl) (Nat.le_of_eq (Cd _));rw[VZ,AN,nE]at this;rw[hn];exact this
 |_,_,.m hg hl=>by
  simp only[TV.er];rw[hl];exact .m (by rw[gi,hg];rfl)
 |_,_,.f hl=>by
  simp only[TV.er];exact .f (Hw hl)
theorem Hw{z:List (Nat×TB B.S)}: ∀{xs ys:List (TV B.S)},VA B z xs ys->QD (kP B z) (eB B.E xs) (eB B.E ys)
 |_,_,.z=>.z
 |_,_,.k hx hs=>.k (Xn hx) (Hw hs)
end
theorem NH{o:Option α}{K:α->Option β}{g:FuncId}{X:α->TV B.S}(z:List (Nat×TB B.S))(args j7:List (TV B.S))(hl:VA B z args j7)(h:o.bind K=some r)
  (hf: ∀a,o=some a->dg B P g j7 X a) (k: ∀a,o=some a->K a=some r->RT B P N ρ Q (YN (G B P N M).1 (X a)))
  (hb: ∀a,Je ((X a).er B.E)=true:=by intro a;kernel_rfl)
  (hx:(BJ B P (G B P N M).1,NC (G B P N M).1.s.heap z,(G B P N M).2.map Prod.fst)=(some (g,eB B.E args),z.map (λp=>some p.2),(G B P N M).2.map Prod.snd):=by kernel_rfl):RT B P N ρ Q M:=by
 simp only[Prod.mk.injEq]at hx;obtain⟨h1,h2,h3⟩:=hx;obtain⟨a,ha,hK⟩:=mG h;refine qT h3 ⟨KK h1 ?_ (k a ha hK).v⟩;have hp:kU P g (eB B.E j7) ((X a).er B.E):=hf a ha;refine E8 (QC.all (h:=kP B z) (λid b hg=>?_) (Hw hl)) (hb a) (hp _);have h4: ∃b',bJ z id=some b'/\fS B b'=b:=by
  rw[gi]at hg;cases hz:bJ z id with
  |none=>rw[hz]at hg;cases hg
  |some b'=>rw[hz]at hg;cases hg;exact⟨b',rfl,rfl⟩
 obtain⟨b',e1,e2⟩:=h4;have h5:(id,b')∈z:=by
  clear h2 hl hf hg
  induction z with
  |nil=>simp[di]at e1
  |cons p r ih=>
   obtain⟨k,c⟩:=p;simp only[cZ]at e1;split at e1
   ·rename_i hk;cases hk;cases e1;exact List.mem_cons_self ..
   ·exact JO _ (ih e1)
 have h6:=Dd h2 _ h5;show bJ (kP B _++mN B _) id=_;rw[dp,gi,h6];simp[e2]
theorem QE{N:Nat}{ρ:Option Nat}{bX:Env}{s:St}{id cN n:Nat}{xs:List AV}(hg:bJ s.heap id=some (.cells cN xs))(hc:fj xs=true):
  G8 N ρ s.cr bX ⟨eF s.heap id (.cells cN (xs.take n)),s.cr⟩ bX s:=λhb h0 hx hn=>
 E4 (N:=N) (ρ:=ρ) (bX:=bX) (π:=λi=>i) (s:=s) (S2:=⟨eF s.heap id (.cells cN (xs.take n)),s.cr⟩) ⟨λi b h=>by
   rw[ff]at h;split at h
   ·rename_i e;subst e;cases h;refine .inl ⟨_,hg,.inr ?_⟩;conv=>rhs;rw[<-Lk n xs]
    exact .cut (.r (eJ.2 λx hx=>eJ.1 hc x (xA hx)))
   ·exact .inl ⟨b,h,.inl rfl⟩,λ_ _=>rfl,λ_ _ _ _ _ _ h=>h,λi b h=>by
   rw[ff]at h;split at h
   ·rename_i e;subst e;exact hn.jd.lt _ _ hg
   ·exact hn.jd.lt _ _ h,eD _,λi h=>by
   rw[ff];split
   ·rename_i e;subst e;rw[hg]at h;cases h
   ·exact h⟩ hb h0 hx hn
theorem tCt(fN id sz c:Nat)(xs:List (B.S c))(n:Nat)(k:RT B P N ρ Q (Qu B id (.lz sz c (xs.take n)) (toReg B P N fN M).1))
  (hx:(ke (toReg B P N fN M).1.o,bJ (toReg B P N fN M).1.s.heap id,(toReg B P N fN M).2.map Prod.fst)=(true,some (.lz sz c xs),(toReg B P N fN M).2.map Prod.snd):=by kernel_rfl):RT B P N ρ Q M:=by
 simp only[Prod.mk.injEq]at hx;obtain⟨h1,h2,h3⟩:=hx;refine⟨kr (eo h3) ?_⟩;have k:=k.v;unfold Qu at k;revert h1 h2 k;show _->_->_->kR B P N ρ Q (toReg B P N fN M).1;generalize(toReg B P N fN M).1=g;intro h1 h2 k;obtain⟨o,kk,bX,s⟩:=g;have hg:bJ (kP B s.heap) id=some (.cells sz (xs.map (B.E c))):=by rw[gi,h2];rfl
 have e1:mN B (eF s.heap id (.lz sz c (xs.take n)))=mN B s.heap:=zx h2 rfl;have e:dA B ⟨eF s.heap id (.lz sz c (xs.take n)),s.cr⟩=⟨eF (dA B s).heap id (.cells sz ((xs.map (B.E c)).take n)),(dA B s).cr⟩:=by
  simp only[dA,CS];rw[e1,EB hg,<-Ly];rfl
 refine Hu h1 (S2:=⟨eF s.heap id (.lz sz c (xs.take n)),s.cr⟩) ?_ k;rw[e];have hg2:bJ (dA B s).heap id=some (.cells sz (xs.map (B.E c))):=by
  show bJ (kP B s.heap++mN B s.heap) id=_;rw[dp,hg]
 intro G0 s0 w0 G w a hb h0 hx hn;exact QE hg2 (dT _ _ (B.hc c)) hb h0 hx hn
theorem Ud{N:Nat}{ρ:Option Nat}{bX E2:Env}{s S2:St}{id cN:Nat}{elems:List AV}(hg:bJ s.heap id=some (.cells cN elems))
  (hE: ∀t x,bJ E2 t=some x-> ∃y,bJ bX t=some y/\Fz id elems x y) (hS: ∀i b,bJ S2.heap i=some b->i≠id/\ ∃b',bJ s.heap i=some b'/\RC id elems b b') (hc:S2.cr=s.cr)
  (hd: ∀i,bJ s.heap i=some .gK->bJ S2.heap i=some .gK):G8 N ρ s.cr E2 S2 bX s:=by
 intro G0 s0 w0 G w a D7 h00 PK hn;obtain⟨G',h1,h2,h3⟩:=kz hn.jd (b9:=0) (len:=0) hg (xC _);have del: ∀{i b},i≠id->bJ s.heap i=some b->bJ (eN s.heap id) i=some b:=λ{i b}eU hb=>by
  rw[fU,dY (λe=>eU e.symm)];exact hb
 have Ti:eQ G' S2 w:=⟨h1.kS,λi b hi=>by
   obtain⟨eU,b',oM,hf⟩:=hS i b hi;rcases h1.heap i b' (del eU oM)with⟨r,o,e1,e2,_⟩|⟨e1,sz,h0,e2⟩
   ·refine .inl ⟨r,o,e1,e2,?_⟩;rcases hn.jd.heap i b' oM with⟨r',o',q1,q2,q3⟩|⟨q1,_,_,q2⟩
    ·rw[h2.le.own _ _ q1]at e1;cases e1;rw[e2]at q2;cases q2;exact hf.holds h2.le h3 q3
    ·rw[h2.stay i (hn.jd.lt _ _ oM) q1]at e1;cases e1
   ·refine .inr ⟨e1,sz,h0,?_⟩;subst e2;cases hf with
    |r=>rfl
    |cells hl=>
     rename_i xs;have:xs=[]:=Gs (by simpa using hl.length);rw[this],
  λi i' b b' r r' g1 g2=>by
   obtain⟨n1,c1,k1,_⟩:=hS i b g1;obtain⟨n2,c2,k2,_⟩:=hS i' b' g2;exact h1.apart i i' c1 c2 r r' (del n1 k1) (del n2 k2),
  λi b r o g1=>by
   obtain⟨n1,c1,k1,_⟩:=hS i b g1;exact h1.clear i c1 r o (del n1 k1),
  λi hi=>h1.cE i (by rw[hc]at hi;exact hi),
  λi b g1=>by
   obtain⟨n1,c1,k1,_⟩:=hS i b g1;rw[hc];exact hn.jd.lt i c1 k1⟩
 have Ms:Ext G s w G' S2 w:=⟨h2.le,rfl,rfl,rfl,eD _,λ_ _ _=>rfl,h2.jJ,h2.jj,λi b g1=>by
   obtain⟨n1,c1,k1,_⟩:=hS i b g1;exact .inl ⟨c1,k1⟩,by rw[hc];exact eD _,hd,h2.stay,h2.drawn⟩
 refine⟨G',⟨Ti,λt' x hx=>?_,hn.size,hn.mM.ext Ms,hn.known.le h2.le⟩,PK.trans h00 Ms⟩;obtain⟨y,hy,hf⟩:=hE t' x hx;obtain⟨q1,q2⟩:=hn.bX _ _ hy;exact⟨q1,hf.V h2.le h3 q2⟩
theorem QF{o:TO B.S}{k:List Fr}{E2 bX:dU B.S}{S2 s:dZ B.S}(ho:ke o=true)(h:G8 N ρ s.cr (eY B E2) (dA B S2) (eY B bX) (dA B s))(hk:kR B P N ρ Q ⟨o,k,E2,S2⟩):kR B P N ρ Q ⟨o,k,bX,s⟩:=by
 cases o<;>simp only[ke]at ho<;>first|(cases ho;done)|skip
 ·have hk:xp P N ρ Q ⟨.run _,k,eY B E2,dA B S2⟩:=hk;exact tg (cn:=s.cr) (eD _) h hk
 ·have hk:xp P N ρ Q ⟨.out _,k,eY B E2,dA B S2⟩:=hk;exact tg (cn:=s.cr) (eD _) h hk
theorem QG{id:Nat}{M:TM B.S}(ho:ke M.o=true)(hd:KB B id M.s=true)(hq: ∀p∈(Lu id M).2,p.1=p.2)(h:kR B P N ρ Q (Lu id M).1):kR B P N ρ Q M:=by
 obtain⟨o,k,bX,s⟩:=M;simp only[KB,fE]at hd;obtain⟨⟨hd,hw⟩,Nv⟩:=hd;unfold Lu at hq h;split at hq
 ·rename_i l len p hf;rw[hf]at h;obtain⟨cN,elems,hg,hl,hn,hp⟩:=I6 hf;have W9: ∀x:TV B.S,(∀q∈(DX id l len p 4 x).2,q.1=q.2)->Fz id elems ((DX id l len p 4 x).1.er B.E) (x.er B.E):=λx=>zr hp hl hn;have h:kR B P N ρ Q ⟨o,k,(wQ (DX id l len p 4) bX).1,⟨(lj id (DX id l len p 4) s.heap).1,s.cr⟩⟩:=h;have h1:=zu W9 (bX:=bX) λp hp=>hq p (DQ _ hp);have h2:=xU (id:=id) W9 (h:=s.heap) λp hp=>hq p (Ga _ hp);refine QF ho (λ{G0 s0 w0 G w a}a1 a2 a3 a4=>Ud (S2:=dA B ⟨(lj id (DX id l len p 4) s.heap).1,s.cr⟩) hg h1 ?_ rfl (λi e=>absurd e (oQ (xT (n:=s.cr) hd) i)) a1 a2 a3 a4) h;intro i b hb;simp only[dA,Da Nv]at hb;rw[dp]at hb;split at hb
  ·rename_i x hx;cases hb;obtain⟨g1,b',g2,g3⟩:=h2 i _ hx;exact⟨g1,b',by simp only[dA];rw[dp,g2],g3⟩
  ·obtain⟨w,b',g1,g2⟩:=zh hw hb;refine⟨λe=>?_,b,jm hw g1 g2,.r _⟩;subst e;obtain⟨f1,f2⟩:=fh g2;rw[zw Nv g1 f1]at f2;cases f2
 ·have:=hq (.any,.iO) (by simp);cases this
theorem Y4(fN id:Nat)(k:RT B P N ρ Q (Lu id (toReg B P N fN M).1).1)
  (hx:(ke (toReg B P N fN M).1.o,KB B id (toReg B P N fN M).1.s,(toReg B P N fN M).2.map Prod.fst,(Lu id (toReg B P N fN M).1).2.map Prod.fst)=(true,true,(toReg B P N fN M).2.map Prod.snd,(Lu id (toReg B P N fN M).1).2.map Prod.snd):=by kernel_rfl):RT B P N ρ Q M:=by
 simp only[Prod.mk.injEq]at hx;obtain⟨h1,h2,h3,h4⟩:=hx;exact⟨kr (eo h3) (QG h1 h2 (eo h4) k.v)⟩
theorem Jf{uH uR:Type}{o:Option (α⊕(uH⊕uR))}{K:α->Option β}{K':uH->Option β}{R3:uR->Option β}{g:FuncId}{cD:List (TV B.S)}{H0:dZ B.S}{X:α->TV B.S}{X':uH->TV B.S}{xX:uR->TV B.S}{H1:α->dZ B.S}{mQ:uH->dZ B.S}{mR:uR->dZ B.S}(h:o.bind (Sum.elim K (Sum.elim K' R3))=some r)
  (hf: ∀a,o=some a->dv B P g cD H0 (Sum.elim X (Sum.elim X' xX)) (Sum.elim H1 (Sum.elim mQ mR)) a)
  (k: ∀a,o=some (.inl a)->K a=some r->RT B P N ρ Q (qV B (G B P N M).1 (fp B cD H0 (X a) (H1 a) (mH (dH B P (G B P N M).1)) (G B P N M).1.s).1 (fp B cD H0 (X a) (H1 a) (mH (dH B P (G B P N M).1)) (G B P N M).1.s).2.1))
  (k': ∀a,o=some (.inr (.inl a))->K' a=some r->RT B P N ρ Q (qV B (G B P N M).1 (fp B cD H0 (X' a) (mQ a) (mH (dH B P (G B P N M).1)) (G B P N M).1.s).1 (fp B cD H0 (X' a) (mQ a) (mH (dH B P (G B P N M).1)) (G B P N M).1.s).2.1))
  (Xo: ∀a,o=some (.inr (.inr a))->R3 a=some r->RT B P N ρ Q (qV B (G B P N M).1 (fp B cD H0 (xX a) (mR a) (mH (dH B P (G B P N M).1)) (G B P N M).1.s).1 (fp B cD H0 (xX a) (mR a) (mH (dH B P (G B P N M).1)) (G B P N M).1.s).2.1))
  (hx: ∀a,(RV (dH B P (G B P N M).1),(fp B cD H0 (X a) (H1 a) (mH (dH B P (G B P N M).1)) (G B P N M).1.s).2.2.map Prod.fst,(jU B P (G B P N M).1 (fp B cD H0 (X a) (H1 a) (mH (dH B P (G B P N M).1)) (G B P N M).1.s).2.1).map Prod.fst,(G B P N M).2.map Prod.fst)=
   (some g,(fp B cD H0 (X a) (H1 a) (mH (dH B P (G B P N M).1)) (G B P N M).1.s).2.2.map Prod.snd,(jU B P (G B P N M).1 (fp B cD H0 (X a) (H1 a) (mH (dH B P (G B P N M).1)) (G B P N M).1.s).2.1).map Prod.snd,(G B P N M).2.map Prod.snd):=by intro a;kernel_rfl)
  (s7: ∀a,(RV (dH B P (G B P N M).1),(fp B cD H0 (X' a) (mQ a) (mH (dH B P (G B P N M).1)) (G B P N M).1.s).2.2.map Prod.fst,(jU B P (G B P N M).1 (fp B cD H0 (X' a) (mQ a) (mH (dH B P (G B P N M).1)) (G B P N M).1.s).2.1).map Prod.fst,(G B P N M).2.map Prod.fst)=
   (some g,(fp B cD H0 (X' a) (mQ a) (mH (dH B P (G B P N M).1)) (G B P N M).1.s).2.2.map Prod.snd,(jU B P (G B P N M).1 (fp B cD H0 (X' a) (mQ a) (mH (dH B P (G B P N M).1)) (G B P N M).1.s).2.1).map Prod.snd,(G B P N M).2.map Prod.snd):=by intro a;kernel_rfl)
  (NI: ∀a,(RV (dH B P (G B P N M).1),(fp B cD H0 (xX a) (mR a) (mH (dH B P (G B P N M).1)) (G B P N M).1.s).2.2.map Prod.fst,(jU B P (G B P N M).1 (fp B cD H0 (xX a) (mR a) (mH (dH B P (G B P N M).1)) (G B P N M).1.s).2.1).map Prod.fst,(G B P N M).2.map Prod.fst)=
   (some g,(fp B cD H0 (xX a) (mR a) (mH (dH B P (G B P N M).1)) (G B P N M).1.s).2.2.map Prod.snd,(jU B P (G B P N M).1 (fp B cD H0 (xX a) (mR a) (mH (dH B P (G B P N M).1)) (G B P N M).1.s).2.1).map Prod.snd,(G B P N M).2.map Prod.snd):=by intro a;kernel_rfl):RT B P N ρ Q M:=by
 obtain⟨a,ha,hK⟩:=mG h;cases a with
 |inl a=>
  have uI:dv B P g cD H0 X H1 a:=hf (.inl a) ha;exact vL uI (k a ha hK) (hx a)
 |inr a=>cases a with
  |inl a=>
   have uI:dv B P g cD H0 X' mQ a:=hf (.inr (.inl a)) ha;exact vL uI (k' a ha hK) (s7 a)
  |inr a=>
   have uI:dv B P g cD H0 xX mR a:=hf (.inr (.inr a)) ha;exact vL uI (Xo a ha hK) (NI a)
theorem NJ{uH uR:Type}{o:Option (α⊕(uH⊕uR))}{K:α->Option β}{K':uH->Option β}{R3:uR->Option β}{jf:Nat}{cD:List (TV B.S)}{H0:dZ B.S}{X:α->TV B.S}{X':uH->TV B.S}{xX:uR->TV B.S}{H1:α->dZ B.S}{mQ:uH->dZ B.S}{mR:uR->dZ B.S}(h:o.bind (Sum.elim K (Sum.elim K' R3))=some r)
  (hf: ∀a,o=some a->uJ B P jf cD H0 (Sum.elim X (Sum.elim X' xX)) (Sum.elim H1 (Sum.elim mQ mR)) a)
  (k: ∀a,o=some (.inl a)->K a=some r->RT B P N ρ Q (qV B (G B P N M).1 (oi B jf cD H0 (X a) (H1 a) (G B P N M).1).1 (oi B jf cD H0 (X a) (H1 a) (G B P N M).1).2.1))
  (k': ∀a,o=some (.inr (.inl a))->K' a=some r->RT B P N ρ Q (qV B (G B P N M).1 (oi B jf cD H0 (X' a) (mQ a) (G B P N M).1).1 (oi B jf cD H0 (X' a) (mQ a) (G B P N M).1).2.1))
  (Xo: ∀a,o=some (.inr (.inr a))->R3 a=some r->RT B P N ρ Q (qV B (G B P N M).1 (oi B jf cD H0 (xX a) (mR a) (G B P N M).1).1 (oi B jf cD H0 (xX a) (mR a) (G B P N M).1).2.1))
  (hx: ∀a,((mB B (G B P N M).1).isSome,(oi B jf cD H0 (X a) (H1 a) (G B P N M).1).2.2.map Prod.fst,(jU B P (G B P N M).1 (oi B jf cD H0 (X a) (H1 a) (G B P N M).1).2.1).map Prod.fst,(G B P N M).2.map Prod.fst)=
   (true,(oi B jf cD H0 (X a) (H1 a) (G B P N M).1).2.2.map Prod.snd,(jU B P (G B P N M).1 (oi B jf cD H0 (X a) (H1 a) (G B P N M).1).2.1).map Prod.snd,(G B P N M).2.map Prod.snd):=by intro a;kernel_rfl)
  (s7: ∀a,((mB B (G B P N M).1).isSome,(oi B jf cD H0 (X' a) (mQ a) (G B P N M).1).2.2.map Prod.fst,(jU B P (G B P N M).1 (oi B jf cD H0 (X' a) (mQ a) (G B P N M).1).2.1).map Prod.fst,(G B P N M).2.map Prod.fst)=
   (true,(oi B jf cD H0 (X' a) (mQ a) (G B P N M).1).2.2.map Prod.snd,(jU B P (G B P N M).1 (oi B jf cD H0 (X' a) (mQ a) (G B P N M).1).2.1).map Prod.snd,(G B P N M).2.map Prod.snd):=by intro a;kernel_rfl)
  (NI: ∀a,((mB B (G B P N M).1).isSome,(oi B jf cD H0 (xX a) (mR a) (G B P N M).1).2.2.map Prod.fst,(jU B P (G B P N M).1 (oi B jf cD H0 (xX a) (mR a) (G B P N M).1).2.1).map Prod.fst,(G B P N M).2.map Prod.fst)=
   (true,(oi B jf cD H0 (xX a) (mR a) (G B P N M).1).2.2.map Prod.snd,(jU B P (G B P N M).1 (oi B jf cD H0 (xX a) (mR a) (G B P N M).1).2.1).map Prod.snd,(G B P N M).2.map Prod.snd):=by intro a;kernel_rfl):RT B P N ρ Q M:=by
 obtain⟨a,ha,hK⟩:=mG h;cases a with
 |inl a=>
  have uI:uJ B P jf cD H0 X H1 a:=hf (.inl a) ha;exact vM uI (k a ha hK) (hx a)
 |inr a=>cases a with
  |inl a=>
   have uI:uJ B P jf cD H0 X' mQ a:=hf (.inr (.inl a)) ha;exact vM uI (k' a ha hK) (s7 a)
  |inr a=>
   have uI:uJ B P jf cD H0 xX mR a:=hf (.inr (.inr a)) ha;exact vM uI (Xo a ha hK) (NI a)
theorem Xp{uH uR:Type}{o:Option (α⊕(uH⊕uR))}{K:α->Option β}{K':uH->Option β}{R3:uR->Option β}{gf:FuncId}{cD:List (TV B.S)}{H0:dZ B.S}{X:α->TV B.S}{X':uH->TV B.S}{xX:uR->TV B.S}{H1:α->dZ B.S}{mQ:uH->dZ B.S}{mR:uR->dZ B.S}(h:o.bind (Sum.elim K (Sum.elim K' R3))=some r)(dx:List Nat)(c:Nat)
  (hf: ∀a,o=some a->dv B P gf cD H0 (Sum.elim X (Sum.elim X' xX)) (Sum.elim H1 (Sum.elim mQ mR)) a)
  (k: ∀a,o=some (.inl a)->K a=some r->RT B P N ρ Q (RZ ρ dx (G B P N M).1 (uK B P N ρ dx c cD H0 (X a) (H1 a) (G B P N M).1).2.1))
  (k': ∀a,o=some (.inr (.inl a))->K' a=some r->RT B P N ρ Q (RZ ρ dx (G B P N M).1 (uK B P N ρ dx c cD H0 (X' a) (mQ a) (G B P N M).1).2.1))
  (Xo: ∀a,o=some (.inr (.inr a))->R3 a=some r->RT B P N ρ Q (RZ ρ dx (G B P N M).1 (uK B P N ρ dx c cD H0 (xX a) (mR a) (G B P N M).1).2.1))
  (hx: ∀a,(RX (Pn P N dx (G B P N M).1),RY ρ (G B P N M).1.s&&(Po ((G B P N M).1.s.cr+E0 ρ) (uK B P N ρ dx c cD H0 (X a) (H1 a) (G B P N M).1).2.1).isSome,(uK B P N ρ dx c cD H0 (X a) (H1 a) (G B P N M).1).2.2.map Prod.fst,(G B P N M).2.map Prod.fst)=
   (some (gf,B.C c),true,(uK B P N ρ dx c cD H0 (X a) (H1 a) (G B P N M).1).2.2.map Prod.snd,(G B P N M).2.map Prod.snd):=by intro a;kernel_rfl)
  (s7: ∀a,(RX (Pn P N dx (G B P N M).1),RY ρ (G B P N M).1.s&&(Po ((G B P N M).1.s.cr+E0 ρ) (uK B P N ρ dx c cD H0 (X' a) (mQ a) (G B P N M).1).2.1).isSome,(uK B P N ρ dx c cD H0 (X' a) (mQ a) (G B P N M).1).2.2.map Prod.fst,(G B P N M).2.map Prod.fst)=
   (some (gf,B.C c),true,(uK B P N ρ dx c cD H0 (X' a) (mQ a) (G B P N M).1).2.2.map Prod.snd,(G B P N M).2.map Prod.snd):=by intro a;kernel_rfl)
  (NI: ∀a,(RX (Pn P N dx (G B P N M).1),RY ρ (G B P N M).1.s&&(Po ((G B P N M).1.s.cr+E0 ρ) (uK B P N ρ dx c cD H0 (xX a) (mR a) (G B P N M).1).2.1).isSome,(uK B P N ρ dx c cD H0 (xX a) (mR a) (G B P N M).1).2.2.map Prod.fst,(G B P N M).2.map Prod.fst)=
   (some (gf,B.C c),true,(uK B P N ρ dx c cD H0 (xX a) (mR a) (G B P N M).1).2.2.map Prod.snd,(G B P N M).2.map Prod.snd):=by intro a;kernel_rfl):RT B P N ρ Q M:=by
 obtain⟨a,ha,hK⟩:=mG h;cases a with
 |inl a=>
  have uI:dv B P gf cD H0 X H1 a:=hf (.inl a) ha;exact Vy dx c uI (k a ha hK) (hx a)
 |inr a=>cases a with
  |inl a=>
   have uI:dv B P gf cD H0 X' mQ a:=hf (.inr (.inl a)) ha;exact Vy dx c uI (k' a ha hK) (s7 a)
  |inr a=>
   have uI:dv B P gf cD H0 xX mR a:=hf (.inr (.inr a)) ha;exact Vy dx c uI (Xo a ha hK) (NI a)
end
def Wk(G:cx)(x y:AV):Prop:=(y.dn=true->x.dn=true)/\(∀v,V G y v->V G x v)/\x.cells.length=y.cells.length/\
 ∀(k:Nat)a b,x.cells[k]? =some a->y.cells[k]? =some b->(b.dn=true->a.dn=true)/\ ∀v,V G b v->V G a v
theorem Wk.refl{G:cx}(x:AV):Wk G x x:=⟨id,λ_ h=>h,rfl,λk a b h1 h2=>by rw[h1]at h2;cases h2;exact⟨id,λ_ h=>h⟩⟩
theorem Wk.one{G:cx}{x y:AV}(hx:x.cells=[x])(hy:y.cells=[y])(h1:y.dn=true->x.dn=true)(h2: ∀v,V G y v->V G x v):Wk G x y:=⟨h1,h2,by rw[hx,hy];rfl,λk a b ha hb=>by
 rw[hx]at ha;rw[hy]at hb;cases k with
 |zero=>simp at ha hb;subst ha;subst hb;exact⟨h1,h2⟩
 |succ k=>simp at ha⟩
def zI(G:cx):List AV->List AV->Prop
 | [],[]=>True
 |a::r,b::s=>Wk G a b/\zI G r s
 |_,_=>False
theorem zI.len{G:cx}: ∀{l m:List AV},zI G l m->l.length=m.length
 | [],[],_=>rfl
 |a::r,b::s,h=>by simp[zI.len h.2]
 | [],_::_,h=>h.elim
 |_::_,[],h=>h.elim
theorem zI.get{G:cx}: ∀{l m:List AV},zI G l m-> ∀(i:Nat)a b,l[i]? =some a->m[i]? =some b->Wk G a b
 | [],[],_,i,a,b,h,_=>by simp at h
 |a::r,b::s,h,0,x,y,h1,h2=>by simp at h1 h2;subst h1;subst h2;exact h.1
 |a::r,b::s,h,i+1,x,y,h1,h2=>zI.get h.2 i x y (by simpa using h1) (by simpa using h2)
 | [],_::_,h,_,_,_,_,_=>h.elim
 |_::_,[],h,_,_,_,_,_=>h.elim
theorem zI.refl{G:cx}: ∀l:List AV,zI G l l
 | []=>trivial
 |a::r=>⟨.refl a,zI.refl r⟩
theorem zI.dB{G:cx}: ∀{l m:List AV},zI G l m->(dB l).length=(dB m).length/\ ∀(k:Nat)a b,(Go.Am.dB l)[k]? =some a->(Go.Am.dB m)[k]? =some b->(b.dn=true->a.dn=true)/\ ∀v,V G b v->V G a v
 | [],[],_=>⟨rfl,λk a b h=>by simp[Go.Am.dB]at h⟩
 |x::r,y::s,h=>by
  obtain⟨h1,h2⟩:=zI.dB h.2;obtain⟨_,_,h3,h4⟩:=h.1;simp only[Go.Am.dB,F6]at h1 h2 |-
  refine⟨by simp[h1,h3],λk a b ha hb=>?_⟩;by_cases hk:k<x.cells.length
  ·rw[nD hk]at ha;rw[nD (by omega)]at hb;exact h4 k a b ha hb
  ·rw[qb (by omega)]at ha;rw[qb (by omega),<-h3]at hb;exact h2 _ a b ha hb
 | [],_::_,h=>h.elim
 |_::_,[],h=>h.elim
theorem zI.back{G:cx}{l m:List AV}(h:zI G l m){i:Nat}{a:AV}(ha:l[i]? =some a): ∃b,m[i]? =some b/\Wk G a b:=by
 have hi:=(fT.1 ha).1;rw[h.len]at hi;exact⟨_,dR hi,h.get i a _ ha (dR hi)⟩
theorem zI.sl{G:cx}{b:Bool}{l m:List AV}(h:zI G l m):Wk G (.sl false l) (.sl b m):=.one rfl rfl (λ_=>rfl) λv hv=>by
 generalize hx:AV.sl b m=x at hv;cases hv with
 |slnil full cn cap hf hb=>
  injection hx with e1 e2
  subst e2;have:l=[]:=Gs h.len;subst this;exact .slnil false cn cap (λh=>by cases h) hb
 |sl full elems b off cN cap val ko kc eE jH iw hV=>
  injection hx with e1 e2
  subst e2;obtain⟨f1,f2⟩:=h.dB;rw[<-h.len]at ko iw |-
  refine .sl false l b off cN cap val ko (λh=>by cases h) (λe he=>?_) (λx hx=>?_) iw λk x hx=>?_
  ·obtain⟨i,hi,hg⟩:=ry he;obtain⟨e',h1,h2⟩:=h.back (i:=i) (a:=e) (by rw[dR hi,hg]);rw[h2.2.2.1];exact eE e' (gT h1)
  ·obtain⟨i,hi,hg⟩:=ry hx;have Ct:=hi;rw[f1]at Ct;exact(f2 i x _ (by rw[dR hi,hg]) (dR Ct)).1 (jH _ (JN Ct))
  ·have hi:=(fT.1 hx).1;rw[f1]at hi;exact(f2 k x _ hx (dR hi)).2 _ (hV k _ (dR hi))
 |_=>cases hx
theorem zI.agg{G:cx}{l m:List AV}(h:zI G l m):Wk G (.agg l) (.agg m):=by
 refine⟨λh=>(by cases h),λv hv=>?_,h.len,λk a b ha hb=>⟨(h.get k a b ha hb).1,(h.get k a b ha hb).2.1⟩⟩;generalize hx:AV.agg m=x at hv;cases hv with
 |agg cs vs dJ hV=>
  injection hx with e1
  subst e1;refine .agg l vs (h.len.trans dJ) λi x y hx hy=>?_;obtain⟨b,h1,h2⟩:=h.back hx;exact h2.2.1 _ (hV i b y h1 hy)
 |_=>cases hx
mutual
def Jg{S:Nat->Type}(E:(c:Nat)->S c->AV):AV->TV S->Option jh
 |x,.s _ cs=>match x with
  |.sl false l=>Bf E l cs
  |_=>none
 |x,.l _ c xs=>match x with
  |.sl false l=>some [(.sl false l,.sl false (xs.map (E c)))]
  |_=>none
 |x,.agg cs=>match x with
  |.agg l=>Bf E l cs
  |_=>none
 |x,.a y=>match y with
  |.sl _ m=>(match x with
   |.sl false l=>some [(.sl false l,.sl false m)]
   |_=>none)
  |y=>some [(x,y)]
 |x,y=>some [(x,y.er E)]
def Bf{S:Nat->Type}(E:(c:Nat)->S c->AV):List AV->List (TV S)->Option jh
 | [],[]=>some []
 |x::r,y::s=>sI (Jg E x y) (Bf E r s)
 |_,_=>none
end
section
variable {B:jg} {G:cx}
mutual
theorem Ue: ∀{x:AV}{y:TV B.S}{q:jh},Jg B.E x y=some q->(∀p∈q,p.1=p.2)->Wk G x (y.er B.E)
 |x,.s b cs,q,h,hq=>by
  unfold Jg at h;split at h
  ·exact(xY h hq).sl
  ·cases h
 |x,.l b c xs,q,h,hq=>by
  unfold Jg at h;split at h
  ·have:=one h hq;injection this with _ e
   subst e;exact(zI.refl _).sl
  ·cases h
 |x,.agg cs,q,h,hq=>by
  unfold Jg at h;split at h
  ·exact(xY h hq).agg
  ·cases h
 |x,.a y,q,h,hq=>by
  unfold Jg at h;split at h
  ·split at h
   ·have:=one h hq;injection this with _ e
    subst e;exact(zI.refl _).sl
   ·cases h
  ·have:=one h hq;subst this;exact .refl _
 |x,.i k n,q,h,hq=>by unfold Jg at h;have:=one h hq;subst this;exact .refl _
 |x,.b t,q,h,hq=>by unfold Jg at h;have:=one h hq;subst this;exact .refl _
 |x,.z t,q,h,hq=>by unfold Jg at h;have:=one h hq;subst this;exact .refl _
 |x,.v c y,q,h,hq=>by unfold Jg at h;have:=one h hq;subst this;exact .refl _
 |x,.eC cs,q,h,hq=>by unfold Jg at h;have:=one h hq;subst this;exact .refl _
 |x,.ip cs,q,h,hq=>by unfold Jg at h;have:=one h hq;subst this;exact .refl _
 |x,.fn f cs,q,h,hq=>by unfold Jg at h;have:=one h hq;subst this;exact .refl _
 |x,.pt i a n,q,h,hq=>by unfold Jg at h;have:=one h hq;subst this;exact .refl _
theorem xY: ∀{l:List AV}{m:List (TV B.S)}{q:jh},Bf B.E l m=some q->(∀p∈q,p.1=p.2)->zI G l (eB B.E m)
 | [],[],q,h,hq=>trivial
 |x::r,y::s,q,h,hq=>by
  unfold Bf at h;obtain⟨⟨q1,h1,e1⟩,q2,h2,e2⟩:=gv h hq;exact⟨Ue h1 e1,xY h2 e2⟩
 | [],_::_,q,h,hq=>by unfold Bf at h;cases h
 |_::_,[],q,h,hq=>by unfold Bf at h;cases h
end
theorem Uf{P:Program}{g:FuncId}{args:List (TV B.S)}{α:Type}{X:α->TV B.S}{o:Option α}(j7:List (TV B.S))(h: ∀a,o=some a->dg B P g args X a)
  (hw:((Bf B.E (eB B.E args) j7).isSome,(wR (Bf B.E (eB B.E args) j7)).map Prod.fst)=(true,(wR (Bf B.E (eB B.E args) j7)).map Prod.snd):=by kernel_rfl): ∀a,o=some a->dg B P g j7 X a:=λa ho s G w vs hs hv=>by
 simp only[Prod.mk.injEq]at hw;obtain⟨q,hq,hp⟩:=zA (eo hw.2);have hl:zI G (eB B.E args) (eB B.E j7):=xY hq hp;exact h a ho s G w vs hs ⟨hl.len.trans hv.1,λi x y hx hy=>by
  obtain⟨b,h1,h2⟩:=hl.back hx;exact h2.2.1 y (hv.2 i b y h1 hy)⟩
end
section
variable {B:jg} {P:Program} {N:Nat} {ρ:Option Nat} {Q:Exit->Env->St->Prop} {M:TM B.S}
theorem R4{S:Nat->Type}{E:(c:Nat)->S c->AV}{f:Bool}{c:Nat}{x:List (S c)}(h:oc ((TV.l f c x).er E)):x=[]:=WX h
theorem NK{S:Nat->Type}{E:(c:Nat)->S c->AV}{i:Nat}{α:Type}{x:List α}(h:oc ((TV.a (.ms i 0 x.length):TV S).er E)):x=[]:=WY h
def Y5(B:jg)(P:Program)(N:Nat)(M:TM B.S):Option (Code×Option Nat×Env×AV):=match M.o with
 |.run c=>CJ P N c (eY B M.bX) (dA B M.s)
 |_=>none
def nlM{B:jg}(o:Option (Code×Option Nat×Env×AV))(E1:dU B.S)(b:Bool)(M:TM B.S):TM B.S:=match o with
 |some (y,d,_,_)=>⟨.run y,M.k,jq d (.a (.bool b)) E1,M.s⟩
 |none=>M
def Y6{B:jg}(t:Nat)(v:TV B.S)(M:TM B.S):dU B.S:=eF M.bX t v
theorem Xq(fN t:Nat)(v:TV B.S)(k1:oc (v.er B.E)->RT B P N ρ Q (nlM (Y5 B P N (toReg B P N fN M).1) (Y6 t v (toReg B P N fN M).1) true (toReg B P N fN M).1))
  (k2:RT B P N ρ Q (nlM (Y5 B P N (toReg B P N fN M).1) (Y6 t v (toReg B P N fN M).1) false (toReg B P N fN M).1))
  (hx:((Y5 B P N (toReg B P N fN M).1).map (λq=>(q.2.2.1,q.2.2.2)),(toReg B P N fN M).2.map Prod.fst)=
   (some (eY B (Y6 t v (toReg B P N fN M).1),v.er B.E),(toReg B P N fN M).2.map Prod.snd):=by kernel_rfl):RT B P N ρ Q M:=by
 simp only[Prod.mk.injEq]at hx;obtain⟨h1,h2⟩:=hx;refine⟨kr (eo h2) ?_⟩;have k2:=k2.v;have k1:=λh=>(k1 h).v;revert h1 k1 k2;show _->_->_->kR B P N ρ Q (toReg B P N fN M).1;generalize(toReg B P N fN M).1=g;intro h1 k2 k1;obtain⟨o,kk,bX,s⟩:=g;unfold Y5 at h1 k1 k2;cases o<;>simp only[Su]at h1<;>first|(cases h1;done)|skip
 rename_i c;simp only at k1 k2;generalize hr:CJ P N c (eY B bX) (dA B s)=q at h1 k1 k2;cases q with
 |none=>cases h1
 |some q=>
  obtain⟨y,d,E1,x⟩:=q;simp only[gX,Option.some.injEq,Prod.mk.injEq]at h1;obtain⟨h1,h3⟩:=h1;refine Tk y d E1 x hr λb hb=>?_;have hE: ∀b,fQ d (.bool b) E1=eY B (jq d (.a (.bool b)) (Y6 t v ⟨.run c,kk,bX,s⟩)):=λb=>by rw[iM,h1];rfl
  rw[hE];cases b with
  |true=>exact k1 (h3 ▸ hb rfl)
  |false=>exact k2
end
end Go.Am
