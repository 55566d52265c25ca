/- A block of one's own, or a part of it, LENT to a function that computes: for the call it is immutable, and behind it one's own again. The answer must be a number or a truth value (so that it cannot name what was lent). -/
import Derived.Test.YtgpciecmgoppiaaGreatAmG
set_option linter.all false
namespace Go.Am
open Go.RowKit
def Jg:AV->Bool
 |.int _ _=>true
 |.bool _=>true
 |_=>false
theorem Rm{G G':bS}{x:AV}{v:Value}(hx:Jg x=true)(h:V G x v):V G' x v:=by
 cases x<;>simp[Jg]at hx
 ·cases h;exact .bool _
 ·cases h;exact .int _ _
def Rn(s:St)(args l8:List AV):Prop:= ∀G w vs,eG G s w->VL G args vs-> ∃G',eG G' ⟨[],s.bN⟩ w/\VL G' l8 vs
theorem EP{P:Program}{f:FuncId}{args l8:List AV}{x:AV}{s:St}(hl:Rn s args l8)(hx:Jg x=true)(hf:dw P f l8 ⟨[],s.bN⟩ λy t=>y=x/\t=⟨[],s.bN⟩):
  dw P f args s λy t=>y=x/\t=s:=λG w vs hs hv=>by
 obtain⟨G',h1,h2⟩:=hl G w vs hs hv;refine(hf G' w vs h1 h2).mono ?_;rintro e w' ⟨v,G2,y,s2,rfl,hV,hS,hE,rfl,rfl⟩;have hk: ∀b,b<w.heap.size->w'.heap[b]? =w.heap[b]?:=λb hb=>hE.keep b hb (by rintro⟨id,blk,r,hg,_⟩;simp[bn]at hg);refine⟨v,G,y,s,rfl,Rm hx hV,⟨⟨λb o v hi=>?_,hs.lW.2⟩,λid blk hg=>?_,hs.apart,hs.clear,hs.cj,hs.lt⟩,?_,rfl,rfl⟩
 ·have hc:=hs.ig b o v hi
  grind [Ih,World.cell?_of_block]
 ·rcases hs.heap id blk hg with⟨r,o,e1,e2,e3⟩|h
  all_goals grind
 ·exact⟨.refl G,hE.os,hE.tape,hE.output,hE.size,λb hb _=>hk b hb,λ_ _ _ h=>.inl h,λ_ _ h=>.inl h,λ_ _ h=>.inl ⟨_,h⟩,fw _,λ_ h=>h,λ_ _ h=>h,hE.drawn⟩
theorem zr{P:Prop}{G:bS}{s:St}{w:World}(hs:eG G s w): ∀ks:List Nat,∃G' s',eG G' s' w/\s'.bN=s.bN/\ss G G'/\(∀id b,bn s'.heap id=some b->bn s.heap id=some b)/\(∀id,id ∉ ks->bn s'.heap id=bn s.heap id)/\
  ∀id∈ks,∀cq elems,bn s.heap id=some (.cells cq elems)->(∀bq len v,bq+len<=elems.length->V G (.ms id bq len) v->V G' (.sl false ((elems.drop bq).take len)) v)/\ ∀e v,elems=[e]->V G (.mp id 0 0) v->V G' (.ip e.cells) v
 | []=>⟨G,s,hs,rfl,.refl _,λ_ _ h=>h,λ_ _=>rfl,λ_ h=>by cases h⟩
 |i::ks=>by
  obtain⟨G1,s1,h1,hc,eR,xa,As,ga⟩:=zr (P:=P) hs ks;by_cases hi:i∈ks
  ·grind
  ·cases hg:bn s1.heap i with
   |none=>
    grind
   |some b=>
    cases b with
    |cells cq elems=>
     obtain⟨G2,h2,h3,h4,h5⟩:=kw h1 hg (bq:=0) (len:=0) (by omega);refine⟨G2,_,h2,hc,eR.trans h3.le,λid b hb=>?_,λid nD=>?_,λid nD KB elems' he=>?_⟩
     ·grind [fO]
     ·have: ¬(id=i\/id∈ks):=λh=>nD (pU.2 h);rw[fO,fN (λe=>this (.inl e.symm))]
      grind
     ·rcases pU.1 nD with rfl|h
      ·have e:=xa _ _ hg;rw[he]at e;cases e;exact⟨λst n v hn hv=>h4 st n v hn (hv.mono eR),λe v he hv=>h5 e v he (hv.mono eR)⟩
      ·obtain⟨a,b⟩:=ga _ h KB elems' he;exact⟨λst n v hn hv=>(a st n v hn hv).mono h3.le,λe v he hv=>(b e v he hv).mono h3.le⟩
    |loop l=>
     grind
    |gq=>
     grind
mutual
inductive LV (h:List (Nat×gM)):AV->AV->Prop
 |s {x:AV}:LV h x x
 |p {id cq st n:Nat} {elems:List AV} (hg:bn h id=some (.cells cq elems)) (hn:st+n<=elems.length):LV h (.ms id st n) (.sl false ((elems.drop st).take n))
 |m {id cq:Nat} {e:AV} (hg:bn h id=some (.cells cq [e])):LV h (.mp id 0 0) (.ip e.cells)
 |f {g:FuncId} {xs ys:List AV} (hl:Ro h xs ys):LV h (.fn g xs) (.fn g ys)
inductive Ro (h:List (Nat×gM)):List AV->List AV->Prop
 |z:Ro h [] []
 |k {x y:AV} {xs ys:List AV} (hx:LV h x y) (hs:Ro h xs ys):Ro h (x::xs) (y::ys)
end
theorem Ro.len{h:List (Nat×gM)}: ∀{xs ys:List AV},Ro h xs ys->xs.length=ys.length
 |_,_,.z=>rfl
 |_,_,.k _ hs=>by simp[hs.len]
mutual
theorem aaV{h:List (Nat×gM)}{G G':bS}(eR:ss G G')
  (hz: ∀id cq elems,bn h id=some (.cells cq elems)->(∀bq len v,bq+len<=elems.length->V G (.ms id bq len) v->V G' (.sl false ((elems.drop bq).take len)) v)/\ ∀e v,elems=[e]->V G (.mp id 0 0) v->V G' (.ip e.cells) v):
  ∀{x y:AV},LV h x y-> ∀v,V G x v->V G' y v
 |_,_,.s,v,hv=>hv.mono eR
 |_,_,.p hg hn,v,hv=>(hz _ _ _ hg).1 _ _ _ hn hv
 |_,_,.m hg,v,hv=>(hz _ _ _ hg).2 _ _ rfl hv
 |_,_,.f hl,v,hv=>by
  cases hv with
  |fn _ fi vs dK hc=>
   refine .fn _ _ vs (by rw[<-hl.len];exact dK) λi y u hy hu=>?_;obtain⟨x,h1,h2⟩:=Oe eR hz hl i y hy;exact h2 u (hc i x u h1 hu)
theorem Oe{h:List (Nat×gM)}{G G':bS}(eR:ss G G')
  (hz: ∀id cq elems,bn h id=some (.cells cq elems)->(∀bq len v,bq+len<=elems.length->V G (.ms id bq len) v->V G' (.sl false ((elems.drop bq).take len)) v)/\ ∀e v,elems=[e]->V G (.mp id 0 0) v->V G' (.ip e.cells) v):
  ∀{xs ys:List AV},Ro h xs ys-> ∀(i:Nat)y,ys[i]? =some y-> ∃x,xs[i]? =some x/\ ∀v,V G x v->V G' y v
 |_,_,.z,i,y,hy=>by simp at hy
 |_,_,.k hx hs,0,y,hy=>by
  simp at hy;subst hy;exact⟨_,rfl,aaV eR hz hx⟩
 |_,_,.k hx hs,i+1,y,hy=>by
  simp at hy;obtain⟨x,h1,h2⟩:=Oe eR hz hs i y hy;exact⟨x,by simpa using h1,h2⟩
end
theorem Rn.all{s:St}{h:List (Nat×gM)}(hh: ∀id b,bn h id=some b->bn s.heap id=some b){args l8:List AV}(hl:Ro h args l8):Rn s args l8:=λG w vs hs hv=>by
 obtain⟨G',s',h1,h2,h3,h4,h5,h6⟩:=zr (P:=True) hs (h.map Prod.fst);refine⟨G',h1.drop (λi b hi=>by simp[bn]at hi) (by grind),by rw[<-hl.len];exact hv.1,λi y u hy hu=>?_⟩;have ga: ∀(h:List (Nat×gM))(id cq:Nat)(elems:List AV),bn h id=some (.cells cq elems)->id∈h.map Prod.fst:=by
  intro h id cq elems
  induction h with
  |nil=>grind [df]
  |cons p r ih=>
   grind [cG]
 obtain⟨x,e1,e2⟩:=Oe (G':=G') h3 (λid cq elems hg=>h6 id (ga h id cq elems hg) cq elems (hh _ _ hg)) hl i y hy;exact e2 u (hv.2 i x u e1 hu)
section
variable {B:iU} {P:Program} {N:Nat} {ρ:Option Nat} {Q:Exit->Env->St->Prop} {M:TM B.S} {α β:Type} {r:β}
theorem uD{op:Op}{bf:dB B.S}{g:FuncId}{l:List AV}{x:AV}{s:St}{K:AV->St->Prop}(h:oH B P op bf=some (g,l))(hp:dw P g l s λy t=>y=x/\t=s)(hk:K x s):ows P op K (eI B bf) s:=by
 unfold oH at h;unfold ows;split at h
 ·rename_i f a hc;split at h
  ·rename_i g' fi hf;split at h
   ·rename_i l' hl;cases he:enters P g' with
    |false=>grind
    |true=>
     simp only[he,cP]at h;cases h;simp only[hc,ee,hf,iJ,lC,hl,TV.er];refine⟨he,?_⟩;rw[sR]at hp;exact hp.mono λy t ⟨e1,e2⟩=>by grind
   ·cases h
  ·cases h
 ·cases h
theorem Ld{g:FuncId}{l:List AV}{v:TV B.S}(h:Br B P M=some (g,l))(hp:dw P g l (db B M.s) λy t=>y=v.er B.E/\t=db B M.s)(hk:kU B P N ρ Q (Zk M v)):kU B P N ρ Q M:=by
 obtain⟨o,k,bf,s⟩:=M;unfold Br at h;split at h
 ·rename_i l0 y ho;simp only at ho;subst ho;split at h
  ·rename_i i l1;split at h
   ·rename_i hg;show DQ _ _ _ _;refine yU (B:=B) ?_;simp only at hg;rw[hg];have hk:oC P (YK P N ρ Q k y) l1 (eI B (jh i.dst v bf)) (db B s):=hk;rw[iI]at hk;exact .inl (uD h hp hk)
   ·cases h
  ·cases h
 ·rename_i l0 n y ho;simp only at ho;subst ho;split at h
  ·rename_i j c i sl l1;split at h
   ·rename_i hg;split at h
    ·rename_i hc;intro hn;show Dw _ _ _ _;refine rG (B:=B) ?_;simp only at hg;rw[hg];have hk:dq P (YK P N ρ Q k y) l1 (vH B n) (eI B (jh i.dst v bf)) (db B s):=hk hn;rw[iI]at hk;have:=uD (K:=λv s'=>rZ P (vH B n) s' c/\dq P (YK P N ρ Q k y) l1 (vH B n) (eH i.dst v (eI B bf)) s') (s:=db B s) h hp ⟨nH hn (λ_=>hn) hc (λp hp=>by cases hp),hk⟩;rw[kV]at this;exact .inl this
    ·cases h
   ·cases h
  ·cases h
 ·cases h
mutual
inductive Of (B:iU) (z:List (Nat×TB B.S)):TV B.S->TV B.S->Prop
 |s {x:TV B.S}:Of B z x x
 |p {id sz c st n:Nat} {xs:List (B.S c)} (hg:bn z id=some (.lz sz c xs)) (hn:st+n<=xs.length):Of B z (.a (.ms id st n)) (.l false c ((xs.drop st).take n))
 |q {id sz c st n:Nat} {xs:List (B.S c)} (hg:bn z id=some (.lz sz c xs)) (hn:st+n<=xs.length):Of B z (.pt id st n) (.l false c ((xs.drop st).take n))
 |w {id sz c n:Nat} {xs:List (B.S c)} (hg:bn z id=some (.lz sz c xs)) (hn:n=xs.length):Of B z (.a (.ms id 0 n)) (.l false c xs)
 |m {id sz:Nat} {x:TV B.S} {l:List (TV B.S)} (hg:bn z id=some (.cu sz [x])) (hl:dY B.E l=(x.er B.E).cells):Of B z (.a (.mp id 0 0)) (.ip l)
 |f {g:FuncId} {xs ys:List (TV B.S)} (hl:V9 B z xs ys):Of B z (.fn g xs) (.fn g ys)
inductive V9 (B:iU) (z:List (Nat×TB B.S)):List (TV B.S)->List (TV B.S)->Prop
 |z:V9 B z [] []
 |k {x y:TV B.S} {xs ys:List (TV B.S)} (hx:Of B z x y) (hs:V9 B z xs ys):V9 B z (x::xs) (y::ys)
end
mutual
theorem XO{z:List (Nat×TB B.S)}: ∀{x y:TV B.S},Of B z x y->LV (kS B z) (x.er B.E) (y.er B.E)
 |_,_,.s=>.s
 |_,_,@Of.p _ _ id sz c st n xs hg hn=>by
  simp only[TV.er,VM,L0];exact .p (by rw[gv,hg];rfl) (by grind)
 |_,_,@Of.q _ _ id sz c st n xs hg hn=>by
  simp only[TV.er,VM,L0];exact .p (by rw[gv,hg];rfl) (by grind)
 |_,_,@Of.w _ _ id sz c n xs hg hn=>by
  simp only[TV.er];have:=LV.p (h:=kS B z) (st:=0) (n:=(xs.map (B.E c)).length) (by rw[gv,hg];rfl) (Nat.le_of_eq (J0 _))
  grind
 |_,_,.m hg hl=>by
  simp only[TV.er];rw[hl];exact .m (by rw[gv,hg];rfl)
 |_,_,.f hl=>by
  simp only[TV.er];exact .f (Hy hl)
theorem Hy{z:List (Nat×TB B.S)}: ∀{xs ys:List (TV B.S)},V9 B z xs ys->Ro (kS B z) (dY B.E xs) (dY B.E ys)
 |_,_,.z=>.z
 |_,_,.k hx hs=>.k (XO hx) (Hy hs)
end
theorem Og{o:Option α}{K:α->Option β}{g:FuncId}{X:α->TV B.S}(z:List (Nat×TB B.S))(args l8:List (TV B.S))(hl:V9 B z args l8)(h:o.bind K=some r)
  (hf: ∀a,o=some a->cH B P g l8 X a) (k: ∀a,o=some a->K a=some r->RT B P N ρ Q (Zk (G B P N M).1 (X a)))
  (hb: ∀a,Jg ((X a).er B.E)=true:=by intro a;kernel_rfl)
  (hx:(Br B P (G B P N M).1,Oa (G B P N M).1.s.heap z,(G B P N M).2.map Prod.fst)=(some (g,dY B.E args),z.map (λp=>some p.2),(G B P N M).2.map Prod.snd):=by kernel_rfl):RT B P N ρ Q M:=by
 simp only[Prod.mk.injEq]at hx;obtain⟨h1,h2,h3⟩:=hx;obtain⟨a,ha,hK⟩:=lY h;refine sd h3 ⟨Ld h1 ?_ (k a ha hK).v⟩;have hp:nf P g (dY B.E l8) ((X a).er B.E):=hf a ha;refine EP (Rn.all (h:=kS B z) (λid b hg=>?_) (Hy hl)) (hb a) (hp _);have h4: ∃b',bn z id=some b'/\fT B b'=b:=by
  simp_all[gv]
 obtain⟨b',e1,e2⟩:=h4;have h5:(id,b')∈z:=by
  clear h2 hl hf hg
  induction z with
  |nil=>simp[df]at e1
  |cons p r ih=>
   grind [cG]
 have h6:=C2 h2 _ h5;show bn (kS B _++mN B _) id=_
 grind [cX,gv]
theorem Rp{N:Nat}{ρ:Option Nat}{bf:Env}{s:St}{id cq n:Nat}{xs:List AV}(hg:bn s.heap id=some (.cells cq xs))(hc:eO xs=true):
  G7 N ρ s.bN bf ⟨dM s.heap id (.cells cq (xs.take n)),s.bN⟩ bf s:=λhb h0 hx hn=>
 EM (N:=N) (ρ:=ρ) (bf:=bf) (π:=λi=>i) (s:=s) (S2:=⟨dM s.heap id (.cells cq (xs.take n)),s.bN⟩) ⟨λi b h=>by
   rw[eK]at h;split at h
   ·rename_i e;subst e;cases h;refine .inl ⟨_,hg,.inr ?_⟩;conv=>rhs;rw[<-VF n xs]
    exact .cut (.r (ec.2 λx hx=>ec.1 hc x (JZ hx)))
   grind,λ_ _=>rfl,λ_ _ _ _ _ _ h=>h,λi b h=>by
   rw[eK]at h;split at h
   ·rename_i e;subst e;exact hn.iB.lt _ _ hg
   ·exact hn.iB.lt _ _ h,fw _,λi h=>by
   grind [eK]⟩ hb h0 hx hn
theorem tCt(fY id sz c:Nat)(xs:List (B.S c))(n:Nat)(k:RT B P N ρ Q (Rb B id (.lz sz c (xs.take n)) (toReg B P N fY M).1))
  (hx:(kD (toReg B P N fY M).1.o,bn (toReg B P N fY M).1.s.heap id,(toReg B P N fY M).2.map Prod.fst)=(true,some (.lz sz c xs),(toReg B P N fY M).2.map Prod.snd):=by kernel_rfl):RT B P N ρ Q M:=by
 simp only[Prod.mk.injEq]at hx;obtain⟨h1,h2,h3⟩:=hx;refine⟨kW (dW h3) ?_⟩;have k:=k.v;unfold Rb at k;revert h1 h2 k;show _->_->_->kU B P N ρ Q (toReg B P N fY M).1;generalize(toReg B P N fY M).1=g;intro h1 h2 k;obtain⟨o,kk,bf,s⟩:=g;have hg:bn (kS B s.heap) id=some (.cells sz (xs.map (B.E c))):=by rw[gv,h2];rfl
 have e1:mN B (dM s.heap id (.lz sz c (xs.take n)))=mN B s.heap:=zh h2 rfl;have e:db B ⟨dM s.heap id (.lz sz c (xs.take n)),s.bN⟩=⟨dM (db B s).heap id (.cells sz ((xs.map (B.E c)).take n)),(db B s).bN⟩:=by
  simp only[db,CE];rw[e1,Em hg,<-VM];rfl
 refine Hx h1 (S2:=⟨dM s.heap id (.lz sz c (xs.take n)),s.bN⟩) ?_ k;rw[e];have hg2:bn (db B s).heap id=some (.cells sz (xs.map (B.E c))):=by
  show bn (kS B s.heap++mN B s.heap) id=_;rw[cX,hg]
 intro G0 s0 w0 G w a hb h0 hx hn;exact Rp hg2 (dj _ _ (B.hc c)) hb h0 hx hn
theorem UU{N:Nat}{ρ:Option Nat}{bf E2:Env}{s S2:St}{id cq:Nat}{elems:List AV}(hg:bn s.heap id=some (.cells cq elems))
  (hE: ∀t x,bn E2 t=some x-> ∃y,bn bf t=some y/\Fz id elems x y) (hS: ∀i b,bn S2.heap i=some b->i≠id/\ ∃b',bn s.heap i=some b'/\Sh id elems b b') (hc:S2.bN=s.bN)
  (hd: ∀i,bn s.heap i=some .gq->bn S2.heap i=some .gq):G7 N ρ s.bN E2 S2 bf s:=by
 intro G0 s0 w0 G w a Gi h00 Tn hn;obtain⟨G',h1,h2,h3⟩:=kw hn.iB (bq:=0) (len:=0) hg (Ds _);have del: ∀{i b},i≠id->bn s.heap i=some b->bn (dZ s.heap id) i=some b:=λ{i b}fG hb=>by
  rw[fO,fN (λe=>fG e.symm)];exact hb
 have TU:eG G' S2 w:=⟨h1.lW,λi b hi=>by
   obtain⟨fG,b',pW,hf⟩:=hS i b hi;rcases h1.heap i b' (del fG pW)with⟨r,o,e1,e2,_⟩|⟨e1,sz,h0,e2⟩
   ·refine .inl ⟨r,o,e1,e2,?_⟩;rcases hn.iB.heap i b' pW with⟨r',o',q1,q2,q3⟩|⟨q1,_,_,q2⟩
    ·rw[h2.le.own _ _ q1]at e1;cases e1;rw[e2]at q2;cases q2;exact hf.holds h2.le h3 q3
    ·rw[h2.stay i (hn.iB.lt _ _ pW) q1]at e1;cases e1
   ·refine .inr ⟨e1,sz,h0,?_⟩;subst e2;cases hf with
    |r=>rfl
    |cells hl=>
     rename_i xs;have:xs=[]:=Py (by simpa using hl.length);rw[this],
  λi i' b b' r r' g1 g2=>by
   obtain⟨n1,c1,k1,_⟩:=hS i b g1;obtain⟨n2,c2,k2,_⟩:=hS i' b' g2;exact h1.apart i i' c1 c2 r r' (del n1 k1) (del n2 k2),
  λi b r o g1=>by
   obtain⟨n1,c1,k1,_⟩:=hS i b g1;exact h1.clear i c1 r o (del n1 k1),
  λi hi=>h1.cj i (by grind),
  λi b g1=>by
   obtain⟨n1,c1,k1,_⟩:=hS i b g1;rw[hc];exact hn.iB.lt i c1 k1⟩
 have MP:Ext G s w G' S2 w:=⟨h2.le,rfl,rfl,rfl,fw _,λ_ _ _=>rfl,h2.jD,h2.iY,λi b g1=>by
   grind,by grind,hd,h2.stay,h2.drawn⟩
 refine⟨G',⟨TU,λt' x hx=>?_,hn.size,hn.mr.ext MP,hn.known.le h2.le⟩,Tn.trans h00 MP⟩;obtain⟨y,hy,hf⟩:=hE t' x hx;obtain⟨q1,q2⟩:=hn.bf _ _ hy;exact⟨q1,hf.V h2.le h3 q2⟩
theorem Rq{o:TO B.S}{k:List Fr}{E2 bf:dB B.S}{S2 s:dH B.S}(ho:kD o=true)(h:G7 N ρ s.bN (eI B E2) (db B S2) (eI B bf) (db B s))(hk:kU B P N ρ Q ⟨o,k,E2,S2⟩):kU B P N ρ Q ⟨o,k,bf,s⟩:=by
 cases o<;>simp only[kD]at ho<;>first|(cases ho;done)|skip
 ·have hk:vE P N ρ Q ⟨.run _,k,eI B E2,db B S2⟩:=hk;exact qC (bG:=s.bN) (fw _) h hk
 ·have hk:vE P N ρ Q ⟨.out _,k,eI B E2,db B S2⟩:=hk;exact qC (bG:=s.bN) (fw _) h hk
theorem Rr{id:Nat}{M:TM B.S}(ho:kD M.o=true)(hd:KV B id M.s=true)(hq: ∀p∈(LU id M).2,p.1=p.2)(h:kU B P N ρ Q (LU id M).1):kU B P N ρ Q M:=by
 obtain⟨o,k,bf,s⟩:=M;simp only[KV,eU]at hd;obtain⟨⟨hd,hw⟩,UH⟩:=hd;unfold LU at hq h;split at hq
 ·rename_i l len p hf;rw[hf]at h;obtain⟨cq,elems,hg,hl,hn,hp⟩:=I7 hf;have Xz: ∀x:TV B.S,(∀q∈(Dz id l len p 4 x).2,q.1=q.2)->Fz id elems ((Dz id l len p 4 x).1.er B.E) (x.er B.E):=λx=>ze hp hl hn;have h:kU B P N ρ Q ⟨o,k,(wI (Dz id l len p 4) bf).1,⟨(lh id (Dz id l len p 4) s.heap).1,s.bN⟩⟩:=h;have h1:=zf Xz (bf:=bf) λp hp=>hq p (Ig _ hp);have h2:=xD (id:=id) Xz (h:=s.heap) λp hp=>hq p (Gh _ hp);refine Rq ho (λ{G0 s0 w0 G w a}a1 a2 a3 a4=>UU (S2:=db B ⟨(lh id (Dz id l len p 4) s.heap).1,s.bN⟩) hg h1 ?_ rfl (λi e=>absurd e (mT (xC (n:=s.bN) hd) i)) a1 a2 a3 a4) h;intro i b hb;simp only[db,CY UH]at hb;rw[cX]at hb;split at hb
  ·rename_i x hx;cases hb;obtain⟨g1,b',g2,g3⟩:=h2 i _ hx;exact⟨g1,b',by simp only[db];rw[cX,g2],g3⟩
  ·obtain⟨w,b',g1,g2⟩:=yW hw hb;refine⟨λe=>?_,b,js hw g1 g2,.r _⟩;subst e;obtain⟨f1,f2⟩:=fc g2
   grind [zg]
 grind
theorem ZC(fY id:Nat)(k:RT B P N ρ Q (LU id (toReg B P N fY M).1).1)
  (hx:(kD (toReg B P N fY M).1.o,KV B id (toReg B P N fY M).1.s,(toReg B P N fY M).2.map Prod.fst,(LU id (toReg B P N fY M).1).2.map Prod.fst)=(true,true,(toReg B P N fY M).2.map Prod.snd,(LU id (toReg B P N fY M).1).2.map Prod.snd):=by kernel_rfl):RT B P N ρ Q M:=by
 simp only[Prod.mk.injEq]at hx;obtain⟨h1,h2,h3,h4⟩:=hx;exact⟨kW (dW h3) (Rr h1 h2 (dW h4) k.v)⟩
theorem Jh{uw uE:Type}{o:Option (α⊕(uw⊕uE))}{K:α->Option β}{K':uw->Option β}{SH:uE->Option β}{g:FuncId}{cn:List (TV B.S)}{H0:dH B.S}{X:α->TV B.S}{X':uw->TV B.S}{AL:uE->TV B.S}{H1:α->dH B.S}{nW:uw->dH B.S}{nY:uE->dH B.S}(h:o.bind (Sum.elim K (Sum.elim K' SH))=some r)
  (hf: ∀a,o=some a->cI B P g cn H0 (Sum.elim X (Sum.elim X' AL)) (Sum.elim H1 (Sum.elim nW nY)) a)
  (k: ∀a,o=some (.inl a)->K a=some r->RT B P N ρ Q (sf B (G B P N M).1 (eQ B cn H0 (X a) (H1 a) (nV (dE B P (G B P N M).1)) (G B P N M).1.s).1 (eQ B cn H0 (X a) (H1 a) (nV (dE B P (G B P N M).1)) (G B P N M).1.s).2.1))
  (k': ∀a,o=some (.inr (.inl a))->K' a=some r->RT B P N ρ Q (sf B (G B P N M).1 (eQ B cn H0 (X' a) (nW a) (nV (dE B P (G B P N M).1)) (G B P N M).1.s).1 (eQ B cn H0 (X' a) (nW a) (nV (dE B P (G B P N M).1)) (G B P N M).1.s).2.1))
  (k'': ∀a,o=some (.inr (.inr a))->SH a=some r->RT B P N ρ Q (sf B (G B P N M).1 (eQ B cn H0 (AL a) (nY a) (nV (dE B P (G B P N M).1)) (G B P N M).1.s).1 (eQ B cn H0 (AL a) (nY a) (nV (dE B P (G B P N M).1)) (G B P N M).1.s).2.1))
  (hx: ∀a,(UK (dE B P (G B P N M).1),(eQ B cn H0 (X a) (H1 a) (nV (dE B P (G B P N M).1)) (G B P N M).1.s).2.2.map Prod.fst,(j0 B P (G B P N M).1 (eQ B cn H0 (X a) (H1 a) (nV (dE B P (G B P N M).1)) (G B P N M).1.s).2.1).map Prod.fst,(G B P N M).2.map Prod.fst)=
   (some g,(eQ B cn H0 (X a) (H1 a) (nV (dE B P (G B P N M).1)) (G B P N M).1.s).2.2.map Prod.snd,(j0 B P (G B P N M).1 (eQ B cn H0 (X a) (H1 a) (nV (dE B P (G B P N M).1)) (G B P N M).1.s).2.1).map Prod.snd,(G B P N M).2.map Prod.snd):=by intro a;kernel_rfl)
  (Aw: ∀a,(UK (dE B P (G B P N M).1),(eQ B cn H0 (X' a) (nW a) (nV (dE B P (G B P N M).1)) (G B P N M).1.s).2.2.map Prod.fst,(j0 B P (G B P N M).1 (eQ B cn H0 (X' a) (nW a) (nV (dE B P (G B P N M).1)) (G B P N M).1.s).2.1).map Prod.fst,(G B P N M).2.map Prod.fst)=
   (some g,(eQ B cn H0 (X' a) (nW a) (nV (dE B P (G B P N M).1)) (G B P N M).1.s).2.2.map Prod.snd,(j0 B P (G B P N M).1 (eQ B cn H0 (X' a) (nW a) (nV (dE B P (G B P N M).1)) (G B P N M).1.s).2.1).map Prod.snd,(G B P N M).2.map Prod.snd):=by intro a;kernel_rfl)
  (XP: ∀a,(UK (dE B P (G B P N M).1),(eQ B cn H0 (AL a) (nY a) (nV (dE B P (G B P N M).1)) (G B P N M).1.s).2.2.map Prod.fst,(j0 B P (G B P N M).1 (eQ B cn H0 (AL a) (nY a) (nV (dE B P (G B P N M).1)) (G B P N M).1.s).2.1).map Prod.fst,(G B P N M).2.map Prod.fst)=
   (some g,(eQ B cn H0 (AL a) (nY a) (nV (dE B P (G B P N M).1)) (G B P N M).1.s).2.2.map Prod.snd,(j0 B P (G B P N M).1 (eQ B cn H0 (AL a) (nY a) (nV (dE B P (G B P N M).1)) (G B P N M).1.s).2.1).map Prod.snd,(G B P N M).2.map Prod.snd):=by intro a;kernel_rfl):RT B P N ρ Q M:=by
 obtain⟨a,ha,hK⟩:=lY h
 grind [Ht]
theorem Oh{uw uE:Type}{o:Option (α⊕(uw⊕uE))}{K:α->Option β}{K':uw->Option β}{SH:uE->Option β}{jr:Nat}{cn:List (TV B.S)}{H0:dH B.S}{X:α->TV B.S}{X':uw->TV B.S}{AL:uE->TV B.S}{H1:α->dH B.S}{nW:uw->dH B.S}{nY:uE->dH B.S}(h:o.bind (Sum.elim K (Sum.elim K' SH))=some r)
  (hf: ∀a,o=some a->C0 B P jr cn H0 (Sum.elim X (Sum.elim X' AL)) (Sum.elim H1 (Sum.elim nW nY)) a)
  (k: ∀a,o=some (.inl a)->K a=some r->RT B P N ρ Q (sf B (G B P N M).1 (nX B jr cn H0 (X a) (H1 a) (G B P N M).1).1 (nX B jr cn H0 (X a) (H1 a) (G B P N M).1).2.1))
  (k': ∀a,o=some (.inr (.inl a))->K' a=some r->RT B P N ρ Q (sf B (G B P N M).1 (nX B jr cn H0 (X' a) (nW a) (G B P N M).1).1 (nX B jr cn H0 (X' a) (nW a) (G B P N M).1).2.1))
  (k'': ∀a,o=some (.inr (.inr a))->SH a=some r->RT B P N ρ Q (sf B (G B P N M).1 (nX B jr cn H0 (AL a) (nY a) (G B P N M).1).1 (nX B jr cn H0 (AL a) (nY a) (G B P N M).1).2.1))
  (hx: ∀a,((mC B (G B P N M).1).isSome,(nX B jr cn H0 (X a) (H1 a) (G B P N M).1).2.2.map Prod.fst,(j0 B P (G B P N M).1 (nX B jr cn H0 (X a) (H1 a) (G B P N M).1).2.1).map Prod.fst,(G B P N M).2.map Prod.fst)=
   (true,(nX B jr cn H0 (X a) (H1 a) (G B P N M).1).2.2.map Prod.snd,(j0 B P (G B P N M).1 (nX B jr cn H0 (X a) (H1 a) (G B P N M).1).2.1).map Prod.snd,(G B P N M).2.map Prod.snd):=by intro a;kernel_rfl)
  (Aw: ∀a,((mC B (G B P N M).1).isSome,(nX B jr cn H0 (X' a) (nW a) (G B P N M).1).2.2.map Prod.fst,(j0 B P (G B P N M).1 (nX B jr cn H0 (X' a) (nW a) (G B P N M).1).2.1).map Prod.fst,(G B P N M).2.map Prod.fst)=
   (true,(nX B jr cn H0 (X' a) (nW a) (G B P N M).1).2.2.map Prod.snd,(j0 B P (G B P N M).1 (nX B jr cn H0 (X' a) (nW a) (G B P N M).1).2.1).map Prod.snd,(G B P N M).2.map Prod.snd):=by intro a;kernel_rfl)
  (XP: ∀a,((mC B (G B P N M).1).isSome,(nX B jr cn H0 (AL a) (nY a) (G B P N M).1).2.2.map Prod.fst,(j0 B P (G B P N M).1 (nX B jr cn H0 (AL a) (nY a) (G B P N M).1).2.1).map Prod.fst,(G B P N M).2.map Prod.fst)=
   (true,(nX B jr cn H0 (AL a) (nY a) (G B P N M).1).2.2.map Prod.snd,(j0 B P (G B P N M).1 (nX B jr cn H0 (AL a) (nY a) (G B P N M).1).2.1).map Prod.snd,(G B P N M).2.map Prod.snd):=by intro a;kernel_rfl):RT B P N ρ Q M:=by
 obtain⟨a,ha,hK⟩:=lY h
 grind [Hv]
theorem XQ{uw uE:Type}{o:Option (α⊕(uw⊕uE))}{K:α->Option β}{K':uw->Option β}{SH:uE->Option β}{gf:FuncId}{cn:List (TV B.S)}{H0:dH B.S}{X:α->TV B.S}{X':uw->TV B.S}{AL:uE->TV B.S}{H1:α->dH B.S}{nW:uw->dH B.S}{nY:uE->dH B.S}(h:o.bind (Sum.elim K (Sum.elim K' SH))=some r)(cZ:List Nat)(c:Nat)
  (hf: ∀a,o=some a->cI B P gf cn H0 (Sum.elim X (Sum.elim X' AL)) (Sum.elim H1 (Sum.elim nW nY)) a)
  (k: ∀a,o=some (.inl a)->K a=some r->RT B P N ρ Q (SC ρ cZ (G B P N M).1 (ux B P N ρ cZ c cn H0 (X a) (H1 a) (G B P N M).1).2.1))
  (k': ∀a,o=some (.inr (.inl a))->K' a=some r->RT B P N ρ Q (SC ρ cZ (G B P N M).1 (ux B P N ρ cZ c cn H0 (X' a) (nW a) (G B P N M).1).2.1))
  (k'': ∀a,o=some (.inr (.inr a))->SH a=some r->RT B P N ρ Q (SC ρ cZ (G B P N M).1 (ux B P N ρ cZ c cn H0 (AL a) (nY a) (G B P N M).1).2.1))
  (hx: ∀a,(SA (PQ P N cZ (G B P N M).1),SB ρ (G B P N M).1.s&&(PR ((G B P N M).1.s.bN+EL ρ) (ux B P N ρ cZ c cn H0 (X a) (H1 a) (G B P N M).1).2.1).isSome,(ux B P N ρ cZ c cn H0 (X a) (H1 a) (G B P N M).1).2.2.map Prod.fst,(G B P N M).2.map Prod.fst)=
   (some (gf,B.C c),true,(ux B P N ρ cZ c cn H0 (X a) (H1 a) (G B P N M).1).2.2.map Prod.snd,(G B P N M).2.map Prod.snd):=by intro a;kernel_rfl)
  (Aw: ∀a,(SA (PQ P N cZ (G B P N M).1),SB ρ (G B P N M).1.s&&(PR ((G B P N M).1.s.bN+EL ρ) (ux B P N ρ cZ c cn H0 (X' a) (nW a) (G B P N M).1).2.1).isSome,(ux B P N ρ cZ c cn H0 (X' a) (nW a) (G B P N M).1).2.2.map Prod.fst,(G B P N M).2.map Prod.fst)=
   (some (gf,B.C c),true,(ux B P N ρ cZ c cn H0 (X' a) (nW a) (G B P N M).1).2.2.map Prod.snd,(G B P N M).2.map Prod.snd):=by intro a;kernel_rfl)
  (XP: ∀a,(SA (PQ P N cZ (G B P N M).1),SB ρ (G B P N M).1.s&&(PR ((G B P N M).1.s.bN+EL ρ) (ux B P N ρ cZ c cn H0 (AL a) (nY a) (G B P N M).1).2.1).isSome,(ux B P N ρ cZ c cn H0 (AL a) (nY a) (G B P N M).1).2.2.map Prod.fst,(G B P N M).2.map Prod.fst)=
   (some (gf,B.C c),true,(ux B P N ρ cZ c cn H0 (AL a) (nY a) (G B P N M).1).2.2.map Prod.snd,(G B P N M).2.map Prod.snd):=by intro a;kernel_rfl):RT B P N ρ Q M:=by
 obtain⟨a,ha,hK⟩:=lY h
 grind [rfv]
end
def Wk(G:bS)(x y:AV):Prop:=(y.cJ=true->x.cJ=true)/\(∀v,V G y v->V G x v)/\x.cells.length=y.cells.length/\
 ∀(k:Nat)a b,x.cells[k]? =some a->y.cells[k]? =some b->(b.cJ=true->a.cJ=true)/\ ∀v,V G b v->V G a v
theorem Wk.refl{G:bS}(x:AV):Wk G x x:=⟨id,λ_ h=>h,rfl,λk a b h1 h2=>by grind⟩
theorem Wk.one{G:bS}{x y:AV}(hx:x.cells=[x])(hy:y.cells=[y])(h1:y.cJ=true->x.cJ=true)(h2: ∀v,V G y v->V G x v):Wk G x y:=⟨h1,h2,by grind,λk a b ha hb=>by
 grind⟩
def zt(G:bS):List AV->List AV->Prop
 | [],[]=>True
 |a::r,b::s=>Wk G a b/\zt G r s
 |_,_=>False
theorem zt.len{G:bS}: ∀{l m:List AV},zt G l m->l.length=m.length
 | [],[],_=>rfl
 |a::r,b::s,h=>by simp[zt.len h.2]
 | [],_::_,h=>h.elim
 |_::_,[],h=>h.elim
theorem zt.get{G:bS}: ∀{l m:List AV},zt G l m-> ∀(i:Nat)a b,l[i]? =some a->m[i]? =some b->Wk G a b
 | [],[],_,i,a,b,h,_=>by simp at h
 |a::r,b::s,h,0,x,y,h1,h2=>by simp at h1 h2;subst h1;subst h2;exact h.1
 |a::r,b::s,h,i+1,x,y,h1,h2=>zt.get h.2 i x y (by grind) (by grind)
 | [],_::_,h,_,_,_,_,_=>h.elim
 |_::_,[],h,_,_,_,_,_=>h.elim
theorem zt.refl{G:bS}: ∀l:List AV,zt G l l
 | []=>trivial
 |a::r=>⟨.refl a,zt.refl r⟩
theorem zt.de{G:bS}: ∀{l m:List AV},zt G l m->(de l).length=(de m).length/\ ∀(k:Nat)a b,(Go.Am.de l)[k]? =some a->(Go.Am.de m)[k]? =some b->(b.cJ=true->a.cJ=true)/\ ∀v,V G b v->V G a v
 | [],[],_=>⟨rfl,λk a b h=>by grind⟩
 |x::r,y::s,h=>by
  obtain⟨h1,h2⟩:=zt.de h.2;obtain⟨_,_,h3,h4⟩:=h.1;simp only[Go.Am.de,F1]at h1 h2 |-
  refine⟨by simp[h1,h3],λk a b ha hb=>?_⟩;by_cases hk:k<x.cells.length
  ·rw[Aq hk]at ha;rw[Aq (by omega)]at hb;exact h4 k a b ha hb
  ·rw[DB (by omega)]at ha;rw[DB (by omega),<-h3]at hb;exact h2 _ a b ha hb
 | [],_::_,h=>h.elim
 |_::_,[],h=>h.elim
theorem zt.back{G:bS}{l m:List AV}(h:zt G l m){i:Nat}{a:AV}(ha:l[i]? =some a): ∃b,m[i]? =some b/\Wk G a b:=by
 have hi:=(lf.1 ha).1;rw[h.len]at hi;exact⟨_,dF hi,h.get i a _ ha (dF hi)⟩
theorem zt.sl{G:bS}{b:Bool}{l m:List AV}(h:zt G l m):Wk G (.sl false l) (.sl b m):=.one rfl rfl (λ_=>rfl) λv hv=>by
 generalize hx:AV.sl b m=x at hv;cases hv with
 |slnil full bG cap hf hb=>
  injection hx with e1 e2
  subst e2;have:l=[]:=Py h.len;subst this;exact .slnil false bG cap (λh=>by cases h) hb
 |sl full elems b off cq cap val jC jX eo kI gE hV=>
  injection hx with e1 e2
  subst e2;obtain⟨f1,f2⟩:=h.de;rw[<-h.len]at jC gE |-
  refine .sl false l b off cq cap val jC (λh=>by cases h) (λe he=>?_) (λx hx=>?_) gE λk x hx=>?_
  ·obtain⟨i,hi,hg⟩:=qZ he;obtain⟨e',h1,h2⟩:=h.back (i:=i) (a:=e) (by grind);rw[h2.2.2.1]
   grind
  ·obtain⟨i,hi,hg⟩:=qZ hx;have F7:=hi;rw[f1]at F7;exact(f2 i x _ (by grind) (dF F7)).1 (kI _ (F2 F7))
  grind
 |_=>cases hx
theorem zt.agg{G:bS}{l m:List AV}(h:zt G l m):Wk G (.agg l) (.agg m):=by
 refine⟨λh=>(by cases h),λv hv=>?_,h.len,λk a b ha hb=>⟨(h.get k a b ha hb).1,(h.get k a b ha hb).2.1⟩⟩;generalize hx:AV.agg m=x at hv;cases hv with
 |agg cs vs dK hV=>
  injection hx with e1
  subst e1;refine .agg l vs (h.len.trans dK) λi x y hx hy=>?_;obtain⟨b,h1,h2⟩:=h.back hx;exact h2.2.1 _ (hV i b y h1 hy)
 |_=>cases hx
mutual
def Ji{S:Nat->Type}(E:(c:Nat)->S c->AV):AV->TV S->Option iV
 |x,.s _ cs=>match x with
  |.sl false l=>AM E l cs
  |_=>none
 |x,.l _ c xs=>match x with
  |.sl false l=>some [(.sl false l,.sl false (xs.map (E c)))]
  |_=>none
 |x,.agg cs=>match x with
  |.agg l=>AM E l cs
  |_=>none
 |x,.a y=>match y with
  |.sl _ m=>(match x with
   |.sl false l=>some [(.sl false l,.sl false m)]
   |_=>none)
  |y=>some [(x,y)]
 |x,y=>some [(x,y.er E)]
def AM{S:Nat->Type}(E:(c:Nat)->S c->AV):List AV->List (TV S)->Option iV
 | [],[]=>some []
 |x::r,y::s=>se (Ji E x y) (AM E r s)
 |_,_=>none
end
section
variable {B:iU} {G:bS}
mutual
theorem UW: ∀{x:AV}{y:TV B.S}{q:iV},Ji B.E x y=some q->(∀p∈q,p.1=p.2)->Wk G x (y.er B.E)
 |x,.s b cs,q,h,hq=>by
  unfold Ji at h;split at h
  ·exact(xF h hq).sl
  ·cases h
 |x,.l b c xs,q,h,hq=>by
  unfold Ji at h;split at h
  ·have:=one h hq;injection this with _ e
   subst e;exact(zt.refl _).sl
  ·cases h
 |x,.agg cs,q,h,hq=>by
  unfold Ji at h;split at h
  ·exact(xF h hq).agg
  ·cases h
 |x,.a y,q,h,hq=>by
  unfold Ji at h;split at h
  ·split at h
   ·have:=one h hq;injection this with _ e
    subst e;exact(zt.refl _).sl
   ·cases h
  ·have:=one h hq;subst this;exact .refl _
 |x,.i k n,q,h,hq=>by unfold Ji at h;have:=one h hq;subst this;exact .refl _
 |x,.b t,q,h,hq=>by unfold Ji at h;have:=one h hq;subst this;exact .refl _
 |x,.z t,q,h,hq=>by unfold Ji at h;have:=one h hq;subst this;exact .refl _
 |x,.v c y,q,h,hq=>by unfold Ji at h;have:=one h hq;subst this;exact .refl _
 |x,.dS cs,q,h,hq=>by unfold Ji at h;have:=one h hq;subst this;exact .refl _
 |x,.ip cs,q,h,hq=>by unfold Ji at h;have:=one h hq;subst this;exact .refl _
 |x,.fn f cs,q,h,hq=>by unfold Ji at h;have:=one h hq;subst this;exact .refl _
 |x,.pt i a n,q,h,hq=>by unfold Ji at h;have:=one h hq;subst this;exact .refl _
theorem xF: ∀{l:List AV}{m:List (TV B.S)}{q:iV},AM B.E l m=some q->(∀p∈q,p.1=p.2)->zt G l (dY B.E m)
 | [],[],q,h,hq=>trivial
 |x::r,y::s,q,h,hq=>by
  unfold AM at h;obtain⟨⟨q1,h1,e1⟩,q2,h2,e2⟩:=gp h hq;exact⟨UW h1 e1,xF h2 e2⟩
 | [],_::_,q,h,hq=>by unfold AM at h;cases h
 |_::_,[],q,h,hq=>by unfold AM at h;cases h
end
theorem Wa{P:Program}{g:FuncId}{args:List (TV B.S)}{α:Type}{X:α->TV B.S}{o:Option α}(l8:List (TV B.S))(h: ∀a,o=some a->cH B P g args X a)
  (hw:((AM B.E (dY B.E args) l8).isSome,(wJ (AM B.E (dY B.E args) l8)).map Prod.fst)=(true,(wJ (AM B.E (dY B.E args) l8)).map Prod.snd):=by kernel_rfl): ∀a,o=some a->cH B P g l8 X a:=λa ho s G w vs hs hv=>by
 simp only[Prod.mk.injEq]at hw;obtain⟨q,hq,hp⟩:=zl (dW hw.2);have hl:zt G (dY B.E args) (dY B.E l8):=xF hq hp;exact h a ho s G w vs hs ⟨hl.len.trans hv.1,λi x y hx hy=>by
  obtain⟨b,h1,h2⟩:=hl.back hx;exact h2.2.1 y (hv.2 i b y h1 hy)⟩
end
section
variable {B:iU} {P:Program} {N:Nat} {ρ:Option Nat} {Q:Exit->Env->St->Prop} {M:TM B.S}
theorem Jj{S:Nat->Type}{E:(c:Nat)->S c->AV}{f:Bool}{c:Nat}{x:List (S c)}(h:nS ((TV.l f c x).er E)):x=[]:=Xl h
theorem Jk{S:Nat->Type}{E:(c:Nat)->S c->AV}{i:Nat}{α:Type}{x:List α}(h:nS ((TV.a (.ms i 0 x.length):TV S).er E)):x=[]:=Xm h
def ZD(B:iU)(P:Program)(N:Nat)(M:TM B.S):Option (Code×Option Nat×Env×AV):=match M.o with
 |.run c=>Ct P N c (eI B M.bf) (db B M.s)
 |_=>none
def nlM{B:iU}(o:Option (Code×Option Nat×Env×AV))(E1:dB B.S)(b:Bool)(M:TM B.S):TM B.S:=match o with
 |some (y,d,_,_)=>⟨.run y,M.k,jh d (.a (.bool b)) E1,M.s⟩
 |none=>M
def ZE{B:iU}(t:Nat)(v:TV B.S)(M:TM B.S):dB B.S:=dM M.bf t v
theorem SI(fY t:Nat)(v:TV B.S)(k1:nS (v.er B.E)->RT B P N ρ Q (nlM (ZD B P N (toReg B P N fY M).1) (ZE t v (toReg B P N fY M).1) true (toReg B P N fY M).1))
  (k2:RT B P N ρ Q (nlM (ZD B P N (toReg B P N fY M).1) (ZE t v (toReg B P N fY M).1) false (toReg B P N fY M).1))
  (hx:((ZD B P N (toReg B P N fY M).1).map (λq=>(q.2.2.1,q.2.2.2)),(toReg B P N fY M).2.map Prod.fst)=
   (some (eI B (ZE t v (toReg B P N fY M).1),v.er B.E),(toReg B P N fY M).2.map Prod.snd):=by kernel_rfl):RT B P N ρ Q M:=by
 simp only[Prod.mk.injEq]at hx;obtain⟨h1,h2⟩:=hx;refine⟨kW (dW h2) ?_⟩;have k2:=k2.v;have k1:=λh=>(k1 h).v;revert h1 k1 k2;show _->_->_->kU B P N ρ Q (toReg B P N fY M).1;generalize(toReg B P N fY M).1=g;intro h1 k2 k1;obtain⟨o,kk,bf,s⟩:=g;unfold ZD at h1 k1 k2;cases o<;>simp only[RY]at h1<;>first|(cases h1;done)|skip
 rename_i c;simp only at k1 k2;generalize hr:Ct P N c (eI B bf) (db B s)=q at h1 k1 k2;cases q with
 |none=>cases h1
 |some q=>
  obtain⟨y,d,E1,x⟩:=q;simp only[iJ,Option.some.injEq,Prod.mk.injEq]at h1;obtain⟨h1,h3⟩:=h1;refine T7 y d E1 x hr λb hb=>?_;have hE: ∀b,eH d (.bool b) E1=eI B (jh d (.a (.bool b)) (ZE t v ⟨.run c,kk,bf,s⟩)):=λb=>by rw[iI,h1];rfl
  rw[hE];cases b with
  |true=>exact k1 (h3 ▸ hb rfl)
  |false=>exact k2
end
end Go.Am
