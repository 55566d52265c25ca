/- A block of one's own, or a part of it, LENT to a function that computes: for the call it is immutable, and behind it one's own again. The answer must be a number or a truth value (so that it cannot name what was lent). -/
import Derived.Test.YtpbahncblggodaaGreatAmG
set_option linter.all false
namespace Go.Am
open Go.RowKit
def HY:AV->Bool
 |.int _ _=>true
 |.bool _=>true
 |_=>false
theorem Ph{G G':cg}{x:AV}{v:Value}(hx:HY x=true)(h:V G x v):V G' x v:=by
 cases x<;>simp[HY]at hx
 ·cases h;exact .bool _
 ·cases h;exact .int _ _
def Pj(s:St)(args lI:List AV):Prop:= ∀G w vs,eL G s w->VL G args vs-> ∃G',eL G' ⟨[],s.bT⟩ w/\VL G' lI vs
theorem D7{P:Program}{f:FuncId}{args lI:List AV}{x:AV}{s:St}(hl:Pj s args lI)(hx:HY x=true)(hf:dQ P f lI ⟨[],s.bT⟩ λy t=>y=x/\t=⟨[],s.bT⟩):
  dQ P f args s λy t=>y=x/\t=s:=λG w vs hs hv=>by
 obtain⟨G',h1,h2⟩:=hl G w vs hs hv
 refine(hf G' w vs h1 h2).mono ?_
 rintro e w' ⟨v,G2,y,s2,rfl,hV,hS,hE,rfl,rfl⟩
 have hk: ∀b,b<w.heap.size->w'.heap[b]? =w.heap[b]?:=λb hb=>hE.keep b hb (by rintro⟨id,blk,r,hg,_⟩;simp[bH]at hg)
 refine⟨v,G,y,s,rfl,Ph hx hV,⟨λb o v hi=>?_,λid blk hg=>?_,hs.apart,hs.clear,hs.ct,hs.lt⟩,?_,rfl,rfl⟩
 ·have hc:=hs.gP b o v hi
  have hb:=HA hc
  rw[World.cell?_of_block (w:=w) (hk b hb)]
  exact hc
 ·rcases hs.heap id blk hg with⟨r,o,e1,e2,e3⟩|h
  ·refine .inl ⟨r,o,e1,?_,e3⟩
   have hb:r.block<w.heap.size:=by
    rcases Dp r.block w.heap.size with h|h
    ·exact h
    ·rw[YW h]at e2;cases e2
   rw[hk _ hb];exact e2
  ·exact .inr h
 ·exact⟨.refl G,hE.os,hE.tape,hE.output,hE.size,λb hb _=>hk b hb,λ_ _ _ h=>.inl h,λ_ _ h=>.inl h,λ_ _ h=>.inl ⟨_,h⟩,eF _,λ_ h=>h,λ_ _ h=>h,hE.drawn⟩
theorem yB{P:Prop}{G:cg}{s:St}{w:World}(hs:eL G s w): ∀ks:List Nat,∃G' s',eL G' s' w/\s'.bT=s.bT/\sr G G'/\(∀id b,bH s'.heap id=some b->bH s.heap id=some b)/\(∀id,id ∉ ks->bH s'.heap id=bH s.heap id)/\
  ∀id∈ks,∀cB elems,bH s.heap id=some (.cells cB elems)->(∀bL len v,bL+len<=elems.length->V G (.ms id bL len) v->V G' (.sl false ((elems.drop bL).take len)) v)/\ ∀e v,elems=[e]->V G (.mp id 0 0) v->V G' (.ip e.cells) v
 | []=>⟨G,s,hs,rfl,.refl _,λ_ _ h=>h,λ_ _=>rfl,λ_ h=>by cases h⟩
 |i::ks=>by
  obtain⟨G1,s1,h1,hc,eE,oR,rP,eZ⟩:=yB (P:=P) hs ks
  by_cases hi:i∈ks
  ·refine⟨G1,s1,h1,hc,eE,oR,λid jT=>rP id (λh=>jT (Jh _ h)),λid jT=>?_⟩
   rcases mU.1 jT with rfl|h
   ·exact eZ _ hi
   ·exact eZ _ h
  ·cases hg:bH s1.heap i with
   |none=>
    refine⟨G1,s1,h1,hc,eE,oR,λid jT=>rP id (λh=>jT (Jh _ h)),λid jT cB elems he=>?_⟩
    rcases mU.1 jT with rfl|h
    ·rw[rP _ hi,he]at hg;cases hg
    ·exact eZ _ h cB elems he
   |some b=>
    cases b with
    |cells cB elems=>
     obtain⟨G2,h2,h3,h4,h5⟩:=kg h1 hg (bL:=0) (len:=0) (by omega)
     refine⟨G2,_,h2,hc,eE.trans h3.le,λid b hb=>?_,λid jT=>?_,λid jT SB elems' he=>?_⟩
     ·rw[fH]at hb
      split at hb
      ·cases hb
      ·exact oR _ _ hb
     ·have: ¬(id=i\/id∈ks):=λh=>jT (mU.2 h)
      rw[fH,dM (λe=>this (.inl e.symm))]
      exact rP _ (λh=>this (.inr h))
     ·rcases mU.1 jT with rfl|h
      ·have e:=oR _ _ hg
       rw[he]at e;cases e
       exact⟨λst n v hn hv=>h4 st n v hn (hv.mono eE),λe v he hv=>h5 e v he (hv.mono eE)⟩
      ·obtain⟨a,b⟩:=eZ _ h SB elems' he
       exact⟨λst n v hn hv=>(a st n v hn hv).mono h3.le,λe v he hv=>(b e v he hv).mono h3.le⟩
    |loop l=>
     refine⟨G1,s1,h1,hc,eE,oR,λid jT=>rP id (λh=>jT (Jh _ h)),λid jT cB elems he=>?_⟩
     rcases mU.1 jT with rfl|h
     ·have e:=oR _ _ hg
      rw[he]at e;cases e
     ·exact eZ _ h cB elems he
    |gr=>
     refine⟨G1,s1,h1,hc,eE,oR,λid jT=>rP id (λh=>jT (Jh _ h)),λid jT cB elems he=>?_⟩
     rcases mU.1 jT with rfl|h
     ·have e:=oR _ _ hg
      rw[he]at e;cases e
     ·exact eZ _ h cB elems he
mutual
inductive LV (h:List (Nat×gD)):AV->AV->Prop
 |s {x:AV}:LV h x x
 |p {id cB st n:Nat} {elems:List AV} (hg:bH h id=some (.cells cB elems)) (hn:st+n<=elems.length):LV h (.ms id st n) (.sl false ((elems.drop st).take n))
 |m {id cB:Nat} {e:AV} (hg:bH h id=some (.cells cB [e])):LV h (.mp id 0 0) (.ip e.cells)
 |f {g:FuncId} {xs ys:List AV} (hl:Pk h xs ys):LV h (.fn g xs) (.fn g ys)
inductive Pk (h:List (Nat×gD)):List AV->List AV->Prop
 |z:Pk h [] []
 |k {x y:AV} {xs ys:List AV} (hx:LV h x y) (hs:Pk h xs ys):Pk h (x::xs) (y::ys)
end
theorem Pk.len{h:List (Nat×gD)}: ∀{xs ys:List AV},Pk h xs ys->xs.length=ys.length
 |_,_,.z=>rfl
 |_,_,.k _ hs=>by simp[hs.len]
mutual
theorem Z6{h:List (Nat×gD)}{G G':cg}(eE:sr G G')
  (hz: ∀id cB elems,bH h id=some (.cells cB elems)->(∀bL len v,bL+len<=elems.length->V G (.ms id bL len) v->V G' (.sl false ((elems.drop bL).take len)) v)/\ ∀e v,elems=[e]->V G (.mp id 0 0) v->V G' (.ip e.cells) v):
  ∀{x y:AV},LV h x y-> ∀v,V G x v->V G' y v
 |_,_,.s,v,hv=>hv.mono eE
 |_,_,.p hg hn,v,hv=>(hz _ _ _ hg).1 _ _ _ hn hv
 |_,_,.m hg,v,hv=>(hz _ _ _ hg).2 _ _ rfl hv
 |_,_,.f hl,v,hv=>by
  cases hv with
  |fn _ fQ vs dA hc=>
   refine .fn _ _ vs (by rw[<-hl.len];exact dA) λi y u hy hu=>?_
   obtain⟨x,h1,h2⟩:=L6 eE hz hl i y hy
   exact h2 u (hc i x u h1 hu)
theorem L6{h:List (Nat×gD)}{G G':cg}(eE:sr G G')
  (hz: ∀id cB elems,bH h id=some (.cells cB elems)->(∀bL len v,bL+len<=elems.length->V G (.ms id bL len) v->V G' (.sl false ((elems.drop bL).take len)) v)/\ ∀e v,elems=[e]->V G (.mp id 0 0) v->V G' (.ip e.cells) v):
  ∀{xs ys:List AV},Pk h xs ys-> ∀(i:Nat)y,ys[i]? =some y-> ∃x,xs[i]? =some x/\ ∀v,V G x v->V G' y v
 |_,_,.z,i,y,hy=>by simp at hy
 |_,_,.k hx hs,0,y,hy=>by
  simp at hy;subst hy;exact⟨_,rfl,Z6 eE hz hx⟩
 |_,_,.k hx hs,i+1,y,hy=>by
  simp at hy
  obtain⟨x,h1,h2⟩:=L6 eE hz hs i y hy
  exact⟨x,by simpa using h1,h2⟩
end
theorem Pj.all{s:St}{h:List (Nat×gD)}(hh: ∀id b,bH h id=some b->bH s.heap id=some b){args lI:List AV}(hl:Pk h args lI):Pj s args lI:=λG w vs hs hv=>by
 obtain⟨G',s',h1,h2,h3,h4,h5,h6⟩:=yB (P:=True) hs (h.map Prod.fst)
 refine⟨G',h1.drop (λi b hi=>by simp[bH]at hi) (by rw[h2];exact eF _),by rw[<-hl.len];exact hv.1,λi y u hy hu=>?_⟩
 have eZ: ∀(h:List (Nat×gD))(id cB:Nat)(elems:List AV),bH h id=some (.cells cB elems)->id∈h.map Prod.fst:=by
  intro h id cB elems
  induction h with
  |nil=>intro e;simp[cV]at e
  |cons p r ih=>
   obtain⟨k,b⟩:=p
   intro e
   simp only[cM]at e
   split at e
   ·rename_i hk;subst hk;simp
   ·exact Jh _ (ih e)
 obtain⟨x,e1,e2⟩:=L6 (G':=G') h3 (λid cB elems hg=>h6 id (eZ h id cB elems hg) cB elems (hh _ _ hg)) hl i y hy
 exact e2 u (hv.2 i x u e1 hu)
section
variable {B:jc} {P:Program} {N:Nat} {ρ:Option Nat} {Q:Exit->Env->St->Prop} {M:TM B.S} {α β:Type} {r:β}
theorem ui{op:Op}{bI:dK B.S}{g:FuncId}{l:List AV}{x:AV}{s:St}{K:AV->St->Prop}(h:oc B P op bI=some (g,l))(hp:dQ P g l s λy t=>y=x/\t=s)(hk:K x s):ows P op K (eJ B bI) s:=by
 unfold oc at h
 unfold ows
 split at h
 ·rename_i f a hc
  split at h
  ·rename_i g' fQ hf
   split at h
   ·rename_i l' hl
    cases he:enters P g' with
    |false=>simp[he]at h
    |true=>
     simp only[he,cS]at h
     cases h
     simp only[hc,ew,hf,gy,lb,hl,TV.er]
     refine⟨he,?_⟩
     rw[sS]at hp
     exact hp.mono λy t ⟨e1,e2⟩=>by subst e1;subst e2;exact hk
   ·cases h
  ·cases h
 ·cases h
theorem JU{g:FuncId}{l:List AV}{v:TV B.S}(h:Bo B P M=some (g,l))(hp:dQ P g l (dl B M.s) λy t=>y=v.er B.E/\t=dl B M.s)(hk:kD B P N ρ Q (X2 M v)):kD B P N ρ Q M:=by
 obtain⟨o,k,bI,s⟩:=M
 unfold Bo at h
 split at h
 ·rename_i l0 y ho
  simp only at ho;subst ho
  split at h
  ·rename_i i l1
   split at h
   ·rename_i hg
    show FE _ _ _ _
    refine yC (B:=B) ?_
    simp only at hg
    rw[hg]
    have hk:qt P (YK P N ρ Q k y) l1 (eJ B (je i.dst v bI)) (dl B s):=hk
    rw[iB]at hk
    exact .inl (ui h hp hk)
   ·cases h
  ·cases h
 ·rename_i l0 n y ho
  simp only at ho;subst ho
  split at h
  ·rename_i j c i sl l1
   split at h
   ·rename_i hg
    split at h
    ·rename_i hc
     intro hn
     show FH _ _ _ _
     refine ri (B:=B) ?_
     simp only at hg
     rw[hg]
     have hk:dq P (YK P N ρ Q k y) l1 (vt B n) (eJ B (je i.dst v bI)) (dl B s):=hk hn
     rw[iB]at hk
     have:=ui (K:=λv s'=>wU P (vt B n) s' c/\dq P (YK P N ρ Q k y) l1 (vt B n) (fF i.dst v (eJ B bI)) s') (s:=dl B s) h hp ⟨nf hn (λ_=>hn) hc (λp hp=>by cases hp),hk⟩
     rw[od]at this
     exact this
    ·cases h
   ·cases h
  ·cases h
 ·cases h
mutual
inductive L7 (B:jc) (z:List (Nat×TB B.S)):TV B.S->TV B.S->Prop
 |s {x:TV B.S}:L7 B z x x
 |p {id sz c st n:Nat} {xs:List (B.S c)} (hg:bH z id=some (.lz sz c xs)) (hn:st+n<=xs.length):L7 B z (.a (.ms id st n)) (.l false c ((xs.drop st).take n))
 |q {id sz c st n:Nat} {xs:List (B.S c)} (hg:bH z id=some (.lz sz c xs)) (hn:st+n<=xs.length):L7 B z (.pt id st n) (.l false c ((xs.drop st).take n))
 |w {id sz c n:Nat} {xs:List (B.S c)} (hg:bH z id=some (.lz sz c xs)) (hn:n=xs.length):L7 B z (.a (.ms id 0 n)) (.l false c xs)
 |m {id sz:Nat} {x:TV B.S} {l:List (TV B.S)} (hg:bH z id=some (.cH sz [x])) (hl:dY B.E l=(x.er B.E).cells):L7 B z (.a (.mp id 0 0)) (.ip l)
 |f {g:FuncId} {xs ys:List (TV B.S)} (hl:UF B z xs ys):L7 B z (.fn g xs) (.fn g ys)
inductive UF (B:jc) (z:List (Nat×TB B.S)):List (TV B.S)->List (TV B.S)->Prop
 |z:UF B z [] []
 |k {x y:TV B.S} {xs ys:List (TV B.S)} (hx:L7 B z x y) (hs:UF B z xs ys):UF B z (x::xs) (y::ys)
end
mutual
theorem Wb{z:List (Nat×TB B.S)}: ∀{x y:TV B.S},L7 B z x y->LV (kC B z) (x.er B.E) (y.er B.E)
 |_,_,.s=>.s
 |_,_,@L7.p _ _ id sz c st n xs hg hn=>by
  simp only[TV.er,KT,Fy]
  exact .p (by rw[fX,hg];rfl) (by simpa using hn)
 |_,_,@L7.q _ _ id sz c st n xs hg hn=>by
  simp only[TV.er,KT,Fy]
  exact .p (by rw[fX,hg];rfl) (by simpa using hn)
 |_,_,@L7.w _ _ id sz c n xs hg hn=>by
  simp only[TV.er]
  have:=LV.p (h:=kC B z) (st:=0) (n:=(xs.map (B.E c)).length) (by rw[fX,hg];rfl) (Nat.le_of_eq (BU _))
  rw[XC,AL,mB]at this
  rw[hn];exact this
 |_,_,.m hg hl=>by
  simp only[TV.er]
  rw[hl]
  exact .m (by rw[fX,hg];rfl)
 |_,_,.f hl=>by
  simp only[TV.er]
  exact .f (Gs hl)
theorem Gs{z:List (Nat×TB B.S)}: ∀{xs ys:List (TV B.S)},UF B z xs ys->Pk (kC B z) (dY B.E xs) (dY B.E ys)
 |_,_,.z=>.z
 |_,_,.k hx hs=>.k (Wb hx) (Gs hs)
end
theorem L8{o:Option α}{K:α->Option β}{g:FuncId}{X:α->TV B.S}(z:List (Nat×TB B.S))(args lI:List (TV B.S))(hl:UF B z args lI)(h:o.bind K=some r)
  (hf: ∀a,o=some a->cY B P g lI X a) (k: ∀a,o=some a->K a=some r->RT B P N ρ Q (X2 (G B P N M).1 (X a)))
  (hb: ∀a,HY ((X a).er B.E)=true:=by intro a;kernel_rfl)
  (hx:(Bo B P (G B P N M).1,L4 (G B P N M).1.s.heap z,(G B P N M).2.map Prod.fst)=(some (g,dY B.E args),z.map (λp=>some p.2),(G B P N M).2.map Prod.snd):=by kernel_rfl):RT B P N ρ Q M:=by
 simp only[Prod.mk.injEq]at hx
 obtain⟨h1,h2,h3⟩:=hx
 obtain⟨a,ha,hK⟩:=mK h
 refine rT h3 ⟨JU h1 ?_ (k a ha hK).v⟩
 have hp:nR P g (dY B.E lI) ((X a).er B.E):=hf a ha
 refine D7 (Pj.all (h:=kC B z) (λid b hg=>?_) (Gs hl)) (hb a) (hp _)
 have h4: ∃b',bH z id=some b'/\fx B b'=b:=by
  rw[fX]at hg
  cases hz:bH z id with
  |none=>rw[hz]at hg;cases hg
  |some b'=>rw[hz]at hg;cases hg;exact⟨b',rfl,rfl⟩
 obtain⟨b',e1,e2⟩:=h4
 have h5:(id,b')∈z:=by
  clear h2 hl hf hg
  induction z with
  |nil=>simp[cV]at e1
  |cons p r ih=>
   obtain⟨k,c⟩:=p
   simp only[cM]at e1
   split at e1
   ·rename_i hk;cases hk;cases e1;exact List.mem_cons_self ..
   ·exact Jh _ (ih e1)
 have h6:=Cn h2 _ h5
 show bH (kC B _++mi B _) id=_
 rw[cZ,fX,h6]
 simp[e2]
theorem Pm{N:Nat}{ρ:Option Nat}{bI:Env}{s:St}{id cB n:Nat}{xs:List AV}(hg:bH s.heap id=some (.cells cB xs))(hc:eQ xs=true):
  Gm N ρ s.bT bI ⟨eg s.heap id (.cells cB (xs.take n)),s.bT⟩ bI s:=λhb h0 hx hn=>
 D4 (N:=N) (ρ:=ρ) (bI:=bI) (π:=λi=>i) (s:=s) (S2:=⟨eg s.heap id (.cells cB (xs.take n)),s.bT⟩) ⟨λi b h=>by
   rw[eO]at h
   split at h
   ·rename_i e;subst e;cases h
    refine⟨_,hg,.inr ?_⟩
    conv=>rhs;rw[<-Qt n xs]
    exact .cut (.r (ep.2 λx hx=>ep.1 hc x (xK hx)))
   ·exact⟨b,h,.inl rfl⟩,λ_ _=>rfl,λ_ _ _ _ _ _ h=>h,λi b h=>by
   rw[eO]at h
   split at h
   ·rename_i e;subst e;exact hn.iQ.lt _ _ hg
   ·exact hn.iQ.lt _ _ h,eF _,λi h=>by
   rw[eO]
   split
   ·rename_i e;subst e;rw[hg]at h;cases h
   ·exact h⟩ hb h0 hx hn
theorem tCt(fN id sz c:Nat)(xs:List (B.S c))(n:Nat)(k:RT B P N ρ Q (Pn B id (.lz sz c (xs.take n)) (toReg B P N fN M).1))
  (hx:(ko (toReg B P N fN M).1.o,bH (toReg B P N fN M).1.s.heap id,(toReg B P N fN M).2.map Prod.fst)=(true,some (.lz sz c xs),(toReg B P N fN M).2.map Prod.snd):=by kernel_rfl):RT B P N ρ Q M:=by
 simp only[Prod.mk.injEq]at hx
 obtain⟨h1,h2,h3⟩:=hx
 refine⟨kE (dZ h3) ?_⟩
 have k:=k.v
 unfold Pn at k
 revert h1 h2 k
 show _->_->_->kD B P N ρ Q (toReg B P N fN M).1
 generalize(toReg B P N fN M).1=g
 intro h1 h2 k
 obtain⟨o,kk,bI,s⟩:=g
 have hg:bH (kC B s.heap) id=some (.cells sz (xs.map (B.E c))):=by rw[fX,h2];rfl
 have e1:mi B (eg s.heap id (.lz sz c (xs.take n)))=mi B s.heap:=yD h2 rfl
 have e:dl B ⟨eg s.heap id (.lz sz c (xs.take n)),s.bT⟩=⟨eg (dl B s).heap id (.cells sz ((xs.map (B.E c)).take n)),(dl B s).bT⟩:=by
  simp only[dl,Cp]
  rw[e1,D8 hg,<-KT]
  rfl
 refine Gp h1 (S2:=⟨eg s.heap id (.lz sz c (xs.take n)),s.bT⟩) ?_ k
 rw[e]
 have Z7:bH (dl B s).heap id=some (.cells sz (xs.map (B.E c))):=by
  show bH (kC B s.heap++mi B s.heap) id=_
  rw[cZ,hg]
 intro G0 s0 w0 G w a hb h0 hx hn
 exact Pm Z7 (dw _ _ (B.hc c)) hb h0 hx hn
theorem SC{N:Nat}{ρ:Option Nat}{bI E2:Env}{s S2:St}{id cB:Nat}{elems:List AV}(hg:bH s.heap id=some (.cells cB elems))
  (hE: ∀t x,bH E2 t=some x-> ∃y,bH bI t=some y/\Fz id elems x y) (hS: ∀i b,bH S2.heap i=some b->i≠id/\ ∃b',bH s.heap i=some b'/\QU id elems b b') (hc:S2.bT=s.bT)
  (hd: ∀i,bH s.heap i=some .gr->bH S2.heap i=some .gr):Gm N ρ s.bT E2 S2 bI s:=by
 intro G0 s0 w0 G w a DE h00 OW hn
 obtain⟨G',h1,h2,h3⟩:=kg hn.iQ (bL:=0) (len:=0) hg (AK _)
 have del: ∀{i b},i≠id->bH s.heap i=some b->bH (eB s.heap id) i=some b:=λ{i b}eV hb=>by
  rw[fH,dM (λe=>eV e.symm)];exact hb
 have Sq:eL G' S2 w:=⟨h1.gP,λi b hi=>by
   obtain⟨eV,b',nq,hf⟩:=hS i b hi
   rcases h1.heap i b' (del eV nq)with⟨r,o,e1,e2,_⟩|⟨e1,sz,h0,e2⟩
   ·refine .inl ⟨r,o,e1,e2,?_⟩
    rcases hn.iQ.heap i b' nq with⟨r',o',q1,q2,q3⟩|⟨q1,_,_,q2⟩
    ·rw[h2.le.own _ _ q1]at e1;cases e1
     rw[e2]at q2;cases q2
     exact hf.holds h2.le h3 q3
    ·rw[h2.stay i (hn.iQ.lt _ _ nq) q1]at e1;cases e1
   ·refine .inr ⟨e1,sz,h0,?_⟩
    subst e2
    cases hf with
    |r=>rfl
    |cells hl=>
     rename_i xs
     have:xs=[]:=Kx (by simpa using hl.length)
     rw[this],
  λi i' b b' r r' g1 g2=>by
   obtain⟨n1,c1,k1,_⟩:=hS i b g1
   obtain⟨n2,c2,k2,_⟩:=hS i' b' g2
   exact h1.apart i i' c1 c2 r r' (del n1 k1) (del n2 k2),
  λi b r o g1=>by
   obtain⟨n1,c1,k1,_⟩:=hS i b g1
   exact h1.clear i c1 r o (del n1 k1),
  λi hi=>h1.ct i (by rw[hc]at hi;exact hi),
  λi b g1=>by
   obtain⟨n1,c1,k1,_⟩:=hS i b g1
   rw[hc];exact hn.iQ.lt i c1 k1⟩
 have LX:Ext G s w G' S2 w:=⟨h2.le,rfl,rfl,rfl,eF _,λ_ _ _=>rfl,h2.jA,h2.iW,λi b g1=>by
   obtain⟨n1,c1,k1,_⟩:=hS i b g1
   exact .inl ⟨c1,k1⟩,by rw[hc];exact eF _,hd,h2.stay,h2.drawn⟩
 refine⟨G',⟨Sq,λt' x hx=>?_,hn.size,hn.mg.ext LX,hn.known.le h2.le⟩,OW.trans h00 LX⟩
 obtain⟨y,hy,hf⟩:=hE t' x hx
 obtain⟨q1,q2⟩:=hn.bI _ _ hy
 exact⟨q1,hf.V h2.le h3 q2⟩
theorem Po{o:TO B.S}{k:List Fr}{E2 bI:dK B.S}{S2 s:dP B.S}(ho:ko o=true)(h:Gm N ρ s.bT (eJ B E2) (dl B S2) (eJ B bI) (dl B s))(hk:kD B P N ρ Q ⟨o,k,E2,S2⟩):kD B P N ρ Q ⟨o,k,bI,s⟩:=by
 cases o<;>simp only[ko]at ho<;>first|(cases ho;done)|skip
 ·have hk:wW P N ρ Q ⟨.run _,k,eJ B E2,dl B S2⟩:=hk
  exact sR (bR:=s.bT) (eF _) h hk
 ·have hk:wW P N ρ Q ⟨.out _,k,eJ B E2,dl B S2⟩:=hk
  exact sR (bR:=s.bT) (eF _) h hk
theorem Pp{id:Nat}{M:TM B.S}(ho:ko M.o=true)(hd:JV B id M.s=true)(hq: ∀p∈(KF id M).2,p.1=p.2)(h:kD B P N ρ Q (KF id M).1):kD B P N ρ Q M:=by
 obtain⟨o,k,bI,s⟩:=M
 simp only[JV,fi]at hd
 obtain⟨⟨hd,hw⟩,L9⟩:=hd
 unfold KF at hq h
 split at hq
 ·rename_i l len p hf
  rw[hf]at h
  obtain⟨cB,elems,hg,hl,hn,hp⟩:=HZ hf
  have Wc: ∀x:TV B.S,(∀q∈(Du id l len p 4 x).2,q.1=q.2)->Fz id elems ((Du id l len p 4 x).1.er B.E) (x.er B.E):=λx=>yE hp hl hn
  have h:kD B P N ρ Q ⟨o,k,(wj (Du id l len p 4) bI).1,⟨(kN id (Du id l len p 4) s.heap).1,s.bT⟩⟩:=h
  have h1:=yF Wc (bI:=bI) λp hp=>hq p (Dn _ hp)
  have h2:=xi (id:=id) Wc (h:=s.heap) λp hp=>hq p (FA _ hp)
  refine Po ho (λ{G0 s0 w0 G w a}a1 a2 a3 a4=>SC (S2:=dl B ⟨(kN id (Du id l len p 4) s.heap).1,s.bT⟩) hg h1 ?_ rfl (λi e=>absurd e (nV (xj (n:=s.bT) hd) i)) a1 a2 a3 a4) h
  intro i b hb
  simp only[dl,Cq L9]at hb
  rw[cZ]at hb
  split at hb
  ·rename_i x hx
   cases hb
   obtain⟨g1,b',g2,g3⟩:=h2 i _ hx
   exact⟨g1,b',by simp only[dl];rw[cZ,g2],g3⟩
  ·obtain⟨w,b',g1,g2⟩:=yr hw hb
   refine⟨λe=>?_,b,jo hw g1 g2,.r _⟩
   subst e
   obtain⟨f1,f2⟩:=ff g2
   rw[yG L9 g1 f1]at f2;cases f2
 ·have:=hq (.any,.iE) (by simp);cases this
theorem X3(fN id:Nat)(k:RT B P N ρ Q (KF id (toReg B P N fN M).1).1)
  (hx:(ko (toReg B P N fN M).1.o,JV B id (toReg B P N fN M).1.s,(toReg B P N fN M).2.map Prod.fst,(KF id (toReg B P N fN M).1).2.map Prod.fst)=(true,true,(toReg B P N fN M).2.map Prod.snd,(KF id (toReg B P N fN M).1).2.map Prod.snd):=by kernel_rfl):RT B P N ρ Q M:=by
 simp only[Prod.mk.injEq]at hx
 obtain⟨h1,h2,h3,h4⟩:=hx
 exact⟨kE (dZ h3) (Pp h1 h2 (dZ h4) k.v)⟩
theorem H2{uj uk:Type}{o:Option (α⊕(uj⊕uk))}{K:α->Option β}{K':uj->Option β}{Q0:uk->Option β}{g:FuncId}{cq:List (TV B.S)}{H0:dP B.S}{X:α->TV B.S}{X':uj->TV B.S}{xk:uk->TV B.S}{H1:α->dP B.S}{mj:uj->dP B.S}{ml:uk->dP B.S}(h:o.bind (Sum.elim K (Sum.elim K' Q0))=some r)
  (hf: ∀a,o=some a->cR B P g cq H0 (Sum.elim X (Sum.elim X' xk)) (Sum.elim H1 (Sum.elim mj ml)) a)
  (k: ∀a,o=some (.inl a)->K a=some r->RT B P N ρ Q (rU B (G B P N M).1 (eU B cq H0 (X a) (H1 a) (nz (dJ B P (G B P N M).1)) (G B P N M).1.s).1 (eU B cq H0 (X a) (H1 a) (nz (dJ B P (G B P N M).1)) (G B P N M).1.s).2.1))
  (k': ∀a,o=some (.inr (.inl a))->K' a=some r->RT B P N ρ Q (rU B (G B P N M).1 (eU B cq H0 (X' a) (mj a) (nz (dJ B P (G B P N M).1)) (G B P N M).1.s).1 (eU B cq H0 (X' a) (mj a) (nz (dJ B P (G B P N M).1)) (G B P N M).1.s).2.1))
  (Wd: ∀a,o=some (.inr (.inr a))->Q0 a=some r->RT B P N ρ Q (rU B (G B P N M).1 (eU B cq H0 (xk a) (ml a) (nz (dJ B P (G B P N M).1)) (G B P N M).1.s).1 (eU B cq H0 (xk a) (ml a) (nz (dJ B P (G B P N M).1)) (G B P N M).1.s).2.1))
  (hx: ∀a,(SD (dJ B P (G B P N M).1),(eU B cq H0 (X a) (H1 a) (nz (dJ B P (G B P N M).1)) (G B P N M).1.s).2.2.map Prod.fst,(jU B P (G B P N M).1 (eU B cq H0 (X a) (H1 a) (nz (dJ B P (G B P N M).1)) (G B P N M).1.s).2.1).map Prod.fst,(G B P N M).2.map Prod.fst)=
   (some g,(eU B cq H0 (X a) (H1 a) (nz (dJ B P (G B P N M).1)) (G B P N M).1.s).2.2.map Prod.snd,(jU B P (G B P N M).1 (eU B cq H0 (X a) (H1 a) (nz (dJ B P (G B P N M).1)) (G B P N M).1.s).2.1).map Prod.snd,(G B P N M).2.map Prod.snd):=by intro a;kernel_rfl)
  (pV: ∀a,(SD (dJ B P (G B P N M).1),(eU B cq H0 (X' a) (mj a) (nz (dJ B P (G B P N M).1)) (G B P N M).1.s).2.2.map Prod.fst,(jU B P (G B P N M).1 (eU B cq H0 (X' a) (mj a) (nz (dJ B P (G B P N M).1)) (G B P N M).1.s).2.1).map Prod.fst,(G B P N M).2.map Prod.fst)=
   (some g,(eU B cq H0 (X' a) (mj a) (nz (dJ B P (G B P N M).1)) (G B P N M).1.s).2.2.map Prod.snd,(jU B P (G B P N M).1 (eU B cq H0 (X' a) (mj a) (nz (dJ B P (G B P N M).1)) (G B P N M).1.s).2.1).map Prod.snd,(G B P N M).2.map Prod.snd):=by intro a;kernel_rfl)
  (yH: ∀a,(SD (dJ B P (G B P N M).1),(eU B cq H0 (xk a) (ml a) (nz (dJ B P (G B P N M).1)) (G B P N M).1.s).2.2.map Prod.fst,(jU B P (G B P N M).1 (eU B cq H0 (xk a) (ml a) (nz (dJ B P (G B P N M).1)) (G B P N M).1.s).2.1).map Prod.fst,(G B P N M).2.map Prod.fst)=
   (some g,(eU B cq H0 (xk a) (ml a) (nz (dJ B P (G B P N M).1)) (G B P N M).1.s).2.2.map Prod.snd,(jU B P (G B P N M).1 (eU B cq H0 (xk a) (ml a) (nz (dJ B P (G B P N M).1)) (G B P N M).1.s).2.1).map Prod.snd,(G B P N M).2.map Prod.snd):=by intro a;kernel_rfl):RT B P N ρ Q M:=by
 obtain⟨a,ha,hK⟩:=mK h
 cases a with
 |inl a=>
  have ul:cR B P g cq H0 X H1 a:=hf (.inl a) ha
  exact vu ul (k a ha hK) (hx a)
 |inr a=>cases a with
  |inl a=>
   have ul:cR B P g cq H0 X' mj a:=hf (.inr (.inl a)) ha
   exact vu ul (k' a ha hK) (pV a)
  |inr a=>
   have ul:cR B P g cq H0 xk ml a:=hf (.inr (.inr a)) ha
   exact vu ul (Wd a ha hK) (yH a)
theorem Ma{uj uk:Type}{o:Option (α⊕(uj⊕uk))}{K:α->Option β}{K':uj->Option β}{Q0:uk->Option β}{iS:Nat}{cq:List (TV B.S)}{H0:dP B.S}{X:α->TV B.S}{X':uj->TV B.S}{xk:uk->TV B.S}{H1:α->dP B.S}{mj:uj->dP B.S}{ml:uk->dP B.S}(h:o.bind (Sum.elim K (Sum.elim K' Q0))=some r)
  (hf: ∀a,o=some a->um B P iS cq H0 (Sum.elim X (Sum.elim X' xk)) (Sum.elim H1 (Sum.elim mj ml)) a)
  (k: ∀a,o=some (.inl a)->K a=some r->RT B P N ρ Q (rU B (G B P N M).1 (nA B iS cq H0 (X a) (H1 a) (G B P N M).1).1 (nA B iS cq H0 (X a) (H1 a) (G B P N M).1).2.1))
  (k': ∀a,o=some (.inr (.inl a))->K' a=some r->RT B P N ρ Q (rU B (G B P N M).1 (nA B iS cq H0 (X' a) (mj a) (G B P N M).1).1 (nA B iS cq H0 (X' a) (mj a) (G B P N M).1).2.1))
  (Wd: ∀a,o=some (.inr (.inr a))->Q0 a=some r->RT B P N ρ Q (rU B (G B P N M).1 (nA B iS cq H0 (xk a) (ml a) (G B P N M).1).1 (nA B iS cq H0 (xk a) (ml a) (G B P N M).1).2.1))
  (hx: ∀a,((lY B (G B P N M).1).isSome,(nA B iS cq H0 (X a) (H1 a) (G B P N M).1).2.2.map Prod.fst,(jU B P (G B P N M).1 (nA B iS cq H0 (X a) (H1 a) (G B P N M).1).2.1).map Prod.fst,(G B P N M).2.map Prod.fst)=
   (true,(nA B iS cq H0 (X a) (H1 a) (G B P N M).1).2.2.map Prod.snd,(jU B P (G B P N M).1 (nA B iS cq H0 (X a) (H1 a) (G B P N M).1).2.1).map Prod.snd,(G B P N M).2.map Prod.snd):=by intro a;kernel_rfl)
  (pV: ∀a,((lY B (G B P N M).1).isSome,(nA B iS cq H0 (X' a) (mj a) (G B P N M).1).2.2.map Prod.fst,(jU B P (G B P N M).1 (nA B iS cq H0 (X' a) (mj a) (G B P N M).1).2.1).map Prod.fst,(G B P N M).2.map Prod.fst)=
   (true,(nA B iS cq H0 (X' a) (mj a) (G B P N M).1).2.2.map Prod.snd,(jU B P (G B P N M).1 (nA B iS cq H0 (X' a) (mj a) (G B P N M).1).2.1).map Prod.snd,(G B P N M).2.map Prod.snd):=by intro a;kernel_rfl)
  (yH: ∀a,((lY B (G B P N M).1).isSome,(nA B iS cq H0 (xk a) (ml a) (G B P N M).1).2.2.map Prod.fst,(jU B P (G B P N M).1 (nA B iS cq H0 (xk a) (ml a) (G B P N M).1).2.1).map Prod.fst,(G B P N M).2.map Prod.fst)=
   (true,(nA B iS cq H0 (xk a) (ml a) (G B P N M).1).2.2.map Prod.snd,(jU B P (G B P N M).1 (nA B iS cq H0 (xk a) (ml a) (G B P N M).1).2.1).map Prod.snd,(G B P N M).2.map Prod.snd):=by intro a;kernel_rfl):RT B P N ρ Q M:=by
 obtain⟨a,ha,hK⟩:=mK h
 cases a with
 |inl a=>
  have ul:um B P iS cq H0 X H1 a:=hf (.inl a) ha
  exact vv ul (k a ha hK) (hx a)
 |inr a=>cases a with
  |inl a=>
   have ul:um B P iS cq H0 X' mj a:=hf (.inr (.inl a)) ha
   exact vv ul (k' a ha hK) (pV a)
  |inr a=>
   have ul:um B P iS cq H0 xk ml a:=hf (.inr (.inr a)) ha
   exact vv ul (Wd a ha hK) (yH a)
theorem We{uj uk:Type}{o:Option (α⊕(uj⊕uk))}{K:α->Option β}{K':uj->Option β}{Q0:uk->Option β}{gf:FuncId}{cq:List (TV B.S)}{H0:dP B.S}{X:α->TV B.S}{X':uj->TV B.S}{xk:uk->TV B.S}{H1:α->dP B.S}{mj:uj->dP B.S}{ml:uk->dP B.S}(h:o.bind (Sum.elim K (Sum.elim K' Q0))=some r)(db:List Nat)(c:Nat)
  (hf: ∀a,o=some a->cR B P gf cq H0 (Sum.elim X (Sum.elim X' xk)) (Sum.elim H1 (Sum.elim mj ml)) a)
  (k: ∀a,o=some (.inl a)->K a=some r->RT B P N ρ Q (Q3 ρ db (G B P N M).1 (uo B P N ρ db c cq H0 (X a) (H1 a) (G B P N M).1).2.1))
  (k': ∀a,o=some (.inr (.inl a))->K' a=some r->RT B P N ρ Q (Q3 ρ db (G B P N M).1 (uo B P N ρ db c cq H0 (X' a) (mj a) (G B P N M).1).2.1))
  (Wd: ∀a,o=some (.inr (.inr a))->Q0 a=some r->RT B P N ρ Q (Q3 ρ db (G B P N M).1 (uo B P N ρ db c cq H0 (xk a) (ml a) (G B P N M).1).2.1))
  (hx: ∀a,(Q4 (Ov P N db (G B P N M).1),Q5 ρ (G B P N M).1.s&&(Ow ((G B P N M).1.s.bT+D9 ρ) (uo B P N ρ db c cq H0 (X a) (H1 a) (G B P N M).1).2.1).isSome,(uo B P N ρ db c cq H0 (X a) (H1 a) (G B P N M).1).2.2.map Prod.fst,(G B P N M).2.map Prod.fst)=
   (some (gf,B.C c),true,(uo B P N ρ db c cq H0 (X a) (H1 a) (G B P N M).1).2.2.map Prod.snd,(G B P N M).2.map Prod.snd):=by intro a;kernel_rfl)
  (pV: ∀a,(Q4 (Ov P N db (G B P N M).1),Q5 ρ (G B P N M).1.s&&(Ow ((G B P N M).1.s.bT+D9 ρ) (uo B P N ρ db c cq H0 (X' a) (mj a) (G B P N M).1).2.1).isSome,(uo B P N ρ db c cq H0 (X' a) (mj a) (G B P N M).1).2.2.map Prod.fst,(G B P N M).2.map Prod.fst)=
   (some (gf,B.C c),true,(uo B P N ρ db c cq H0 (X' a) (mj a) (G B P N M).1).2.2.map Prod.snd,(G B P N M).2.map Prod.snd):=by intro a;kernel_rfl)
  (yH: ∀a,(Q4 (Ov P N db (G B P N M).1),Q5 ρ (G B P N M).1.s&&(Ow ((G B P N M).1.s.bT+D9 ρ) (uo B P N ρ db c cq H0 (xk a) (ml a) (G B P N M).1).2.1).isSome,(uo B P N ρ db c cq H0 (xk a) (ml a) (G B P N M).1).2.2.map Prod.fst,(G B P N M).2.map Prod.fst)=
   (some (gf,B.C c),true,(uo B P N ρ db c cq H0 (xk a) (ml a) (G B P N M).1).2.2.map Prod.snd,(G B P N M).2.map Prod.snd):=by intro a;kernel_rfl):RT B P N ρ Q M:=by
 obtain⟨a,ha,hK⟩:=mK h
 cases a with
 |inl a=>
  have ul:cR B P gf cq H0 X H1 a:=hf (.inl a) ha
  exact UG db c ul (k a ha hK) (hx a)
 |inr a=>cases a with
  |inl a=>
   have ul:cR B P gf cq H0 X' mj a:=hf (.inr (.inl a)) ha
   exact UG db c ul (k' a ha hK) (pV a)
  |inr a=>
   have ul:cR B P gf cq H0 xk ml a:=hf (.inr (.inr a)) ha
   exact UG db c ul (Wd a ha hK) (yH a)
end
def Wk(G:cg)(x y:AV):Prop:=(y.cX=true->x.cX=true)/\(∀v,V G y v->V G x v)/\x.cells.length=y.cells.length/\
 ∀(k:Nat)a b,x.cells[k]? =some a->y.cells[k]? =some b->(b.cX=true->a.cX=true)/\ ∀v,V G b v->V G a v
theorem Wk.refl{G:cg}(x:AV):Wk G x x:=⟨id,λ_ h=>h,rfl,λk a b h1 h2=>by rw[h1]at h2;cases h2;exact⟨id,λ_ h=>h⟩⟩
theorem Wk.one{G:cg}{x y:AV}(hx:x.cells=[x])(hy:y.cells=[y])(h1:y.cX=true->x.cX=true)(h2: ∀v,V G y v->V G x v):Wk G x y:=⟨h1,h2,by rw[hx,hy];rfl,λk a b ha hb=>by
 rw[hx]at ha;rw[hy]at hb
 cases k with
 |zero=>simp at ha hb;subst ha;subst hb;exact⟨h1,h2⟩
 |succ k=>simp at ha⟩
def yI(G:cg):List AV->List AV->Prop
 | [],[]=>True
 |a::r,b::s=>Wk G a b/\yI G r s
 |_,_=>False
theorem yI.len{G:cg}: ∀{l m:List AV},yI G l m->l.length=m.length
 | [],[],_=>rfl
 |a::r,b::s,h=>by simp[yI.len h.2]
 | [],_::_,h=>h.elim
 |_::_,[],h=>h.elim
theorem yI.get{G:cg}: ∀{l m:List AV},yI G l m-> ∀(i:Nat)a b,l[i]? =some a->m[i]? =some b->Wk G a b
 | [],[],_,i,a,b,h,_=>by simp at h
 |a::r,b::s,h,0,x,y,h1,h2=>by simp at h1 h2;subst h1;subst h2;exact h.1
 |a::r,b::s,h,i+1,x,y,h1,h2=>yI.get h.2 i x y (by simpa using h1) (by simpa using h2)
 | [],_::_,h,_,_,_,_,_=>h.elim
 |_::_,[],h,_,_,_,_,_=>h.elim
theorem yI.refl{G:cg}: ∀l:List AV,yI G l l
 | []=>trivial
 |a::r=>⟨.refl a,yI.refl r⟩
theorem yI.dn{G:cg}: ∀{l m:List AV},yI G l m->(dn l).length=(dn m).length/\ ∀(k:Nat)a b,(Go.Am.dn l)[k]? =some a->(Go.Am.dn m)[k]? =some b->(b.cX=true->a.cX=true)/\ ∀v,V G b v->V G a v
 | [],[],_=>⟨rfl,λk a b h=>by simp[Go.Am.dn]at h⟩
 |x::r,y::s,h=>by
  obtain⟨h1,h2⟩:=yI.dn h.2
  obtain⟨_,_,h3,h4⟩:=h.1
  simp only[Go.Am.dn,FQ]at h1 h2 |-
  refine⟨by simp[h1,h3],λk a b ha hb=>?_⟩
  by_cases hk:k<x.cells.length
  ·rw[np hk]at ha
   rw[np (by omega)]at hb
   exact h4 k a b ha hb
  ·rw[pG (by omega)]at ha
   rw[pG (by omega),<-h3]at hb
   exact h2 _ a b ha hb
 | [],_::_,h=>h.elim
 |_::_,[],h=>h.elim
theorem yI.back{G:cg}{l m:List AV}(h:yI G l m){i:Nat}{a:AV}(ha:l[i]? =some a): ∃b,m[i]? =some b/\Wk G a b:=by
 have hi:=(fP.1 ha).1
 rw[h.len]at hi
 exact⟨_,dH hi,h.get i a _ ha (dH hi)⟩
theorem yI.sl{G:cg}{b:Bool}{l m:List AV}(h:yI G l m):Wk G (.sl false l) (.sl b m):=.one rfl rfl (λ_=>rfl) λv hv=>by
 generalize hx:AV.sl b m=x at hv
 cases hv with
 |slnil full bR cap hf hb=>
  injection hx with e1 e2
  subst e2
  have:l=[]:=Kx h.len
  subst this
  exact .slnil false bR cap (λh=>by cases h) hb
 |sl full elems b off cB cap val jY jS ee jz gS hV=>
  injection hx with e1 e2
  subst e2
  obtain⟨f1,f2⟩:=h.dn
  rw[<-h.len]at jY gS |-
  refine .sl false l b off cB cap val jY (λh=>by cases h) (λe he=>?_) (λx hx=>?_) gS λk x hx=>?_
  ·obtain⟨i,hi,hg⟩:=pH he
   obtain⟨e',h1,h2⟩:=h.back (i:=i) (a:=e) (by rw[dH hi,hg])
   rw[h2.2.2.1]
   exact ee e' (gz h1)
  ·obtain⟨i,hi,hg⟩:=pH hx
   have AP:=hi
   rw[f1]at AP
   exact(f2 i x _ (by rw[dH hi,hg]) (dH AP)).1 (jz _ (va AP))
  ·have hi:=(fP.1 hx).1
   rw[f1]at hi
   exact(f2 k x _ hx (dH hi)).2 _ (hV k _ (dH hi))
 |_=>cases hx
theorem yI.agg{G:cg}{l m:List AV}(h:yI G l m):Wk G (.agg l) (.agg m):=by
 refine⟨λh=>(by cases h),λv hv=>?_,h.len,λk a b ha hb=>⟨(h.get k a b ha hb).1,(h.get k a b ha hb).2.1⟩⟩
 generalize hx:AV.agg m=x at hv
 cases hv with
 |agg cs vs dA hV=>
  injection hx with e1
  subst e1
  refine .agg l vs (h.len.trans dA) λi x y hx hy=>?_
  obtain⟨b,h1,h2⟩:=h.back hx
  exact h2.2.1 _ (hV i b y h1 hy)
 |_=>cases hx
mutual
def H3{S:Nat->Type}(E:(c:Nat)->S c->AV):AV->TV S->Option iT
 |x,.s _ cs=>match x with
  |.sl false l=>Au E l cs
  |_=>none
 |x,.l _ c xs=>match x with
  |.sl false l=>some [(.sl false l,.sl false (xs.map (E c)))]
  |_=>none
 |x,.agg cs=>match x with
  |.agg l=>Au E l cs
  |_=>none
 |x,.a y=>match y with
  |.sl _ m=>(match x with
   |.sl false l=>some [(.sl false l,.sl false m)]
   |_=>none)
  |y=>some [(x,y)]
 |x,y=>some [(x,y.er E)]
def Au{S:Nat->Type}(E:(c:Nat)->S c->AV):List AV->List (TV S)->Option iT
 | [],[]=>some []
 |x::r,y::s=>rV (H3 E x y) (Au E r s)
 |_,_=>none
end
section
variable {B:jc} {G:cg}
mutual
theorem SE: ∀{x:AV}{y:TV B.S}{q:iT},H3 B.E x y=some q->(∀p∈q,p.1=p.2)->Wk G x (y.er B.E)
 |x,.s b cs,q,h,hq=>by
  unfold H3 at h
  split at h
  ·exact(xm h hq).sl
  ·cases h
 |x,.l b c xs,q,h,hq=>by
  unfold H3 at h
  split at h
  ·have:=one h hq
   injection this with _ e
   subst e
   exact(yI.refl _).sl
  ·cases h
 |x,.agg cs,q,h,hq=>by
  unfold H3 at h
  split at h
  ·exact(xm h hq).agg
  ·cases h
 |x,.a y,q,h,hq=>by
  unfold H3 at h
  split at h
  ·split at h
   ·have:=one h hq
    injection this with _ e
    subst e
    exact(yI.refl _).sl
   ·cases h
  ·have:=one h hq;subst this;exact .refl _
 |x,.i k n,q,h,hq=>by unfold H3 at h;have:=one h hq;subst this;exact .refl _
 |x,.b t,q,h,hq=>by unfold H3 at h;have:=one h hq;subst this;exact .refl _
 |x,.z t,q,h,hq=>by unfold H3 at h;have:=one h hq;subst this;exact .refl _
 |x,.v c y,q,h,hq=>by unfold H3 at h;have:=one h hq;subst this;exact .refl _
 |x,.ec cs,q,h,hq=>by unfold H3 at h;have:=one h hq;subst this;exact .refl _
 |x,.ip cs,q,h,hq=>by unfold H3 at h;have:=one h hq;subst this;exact .refl _
 |x,.fn f cs,q,h,hq=>by unfold H3 at h;have:=one h hq;subst this;exact .refl _
 |x,.pt i a n,q,h,hq=>by unfold H3 at h;have:=one h hq;subst this;exact .refl _
theorem xm: ∀{l:List AV}{m:List (TV B.S)}{q:iT},Au B.E l m=some q->(∀p∈q,p.1=p.2)->yI G l (dY B.E m)
 | [],[],q,h,hq=>trivial
 |x::r,y::s,q,h,hq=>by
  unfold Au at h
  obtain⟨⟨q1,h1,e1⟩,q2,h2,e2⟩:=fY h hq
  exact⟨SE h1 e1,xm h2 e2⟩
 | [],_::_,q,h,hq=>by unfold Au at h;cases h
 |_::_,[],q,h,hq=>by unfold Au at h;cases h
end
theorem X4{P:Program}{g:FuncId}{args:List (TV B.S)}{α:Type}{X:α->TV B.S}{o:Option α}(lI:List (TV B.S))(h: ∀a,o=some a->cY B P g args X a)
  (hw:((Au B.E (dY B.E args) lI).isSome,(wk (Au B.E (dY B.E args) lI)).map Prod.fst)=(true,(wk (Au B.E (dY B.E args) lI)).map Prod.snd):=by kernel_rfl): ∀a,o=some a->cY B P g lI X a:=λa ho s G w vs hs hv=>by
 simp only[Prod.mk.injEq]at hw
 obtain⟨q,hq,hp⟩:=yJ (dZ hw.2)
 have hl:yI G (dY B.E args) (dY B.E lI):=xm hq hp
 exact h a ho s G w vs hs ⟨hl.len.trans hv.1,λi x y hx hy=>by
  obtain⟨b,h1,h2⟩:=hl.back hx
  exact h2.2.1 y (hv.2 i b y h1 hy)⟩
end
section
variable {B:jc} {P:Program} {N:Nat} {ρ:Option Nat} {Q:Exit->Env->St->Prop} {M:TM B.S}
theorem Q6{S:Nat->Type}{E:(c:Nat)->S c->AV}{f:Bool}{c:Nat}{x:List (S c)}(h:ny ((TV.l f c x).er E)):x=[]:=V2 h
theorem Mb{S:Nat->Type}{E:(c:Nat)->S c->AV}{i:Nat}{α:Type}{x:List α}(h:ny ((TV.a (.ms i 0 x.length):TV S).er E)):x=[]:=V3 h
def X5(B:jc)(P:Program)(N:Nat)(M:TM B.S):Option (Code×Option Nat×Env×AV):=match M.o with
 |.run c=>Cj P N c (eJ B M.bI) (dl B M.s)
 |_=>none
def nlM{B:jc}(o:Option (Code×Option Nat×Env×AV))(E1:dK B.S)(b:Bool)(M:TM B.S):TM B.S:=match o with
 |some (y,d,_,_)=>⟨.run y,M.k,je d (.a (.bool b)) E1,M.s⟩
 |none=>M
def X6{B:jc}(t:Nat)(v:TV B.S)(M:TM B.S):dK B.S:=eg M.bI t v
theorem Wf(fN t:Nat)(v:TV B.S)(k1:ny (v.er B.E)->RT B P N ρ Q (nlM (X5 B P N (toReg B P N fN M).1) (X6 t v (toReg B P N fN M).1) true (toReg B P N fN M).1))
  (k2:RT B P N ρ Q (nlM (X5 B P N (toReg B P N fN M).1) (X6 t v (toReg B P N fN M).1) false (toReg B P N fN M).1))
  (hx:((X5 B P N (toReg B P N fN M).1).map (λq=>(q.2.2.1,q.2.2.2)),(toReg B P N fN M).2.map Prod.fst)=
   (some (eJ B (X6 t v (toReg B P N fN M).1),v.er B.E),(toReg B P N fN M).2.map Prod.snd):=by kernel_rfl):RT B P N ρ Q M:=by
 simp only[Prod.mk.injEq]at hx
 obtain⟨h1,h2⟩:=hx
 refine⟨kE (dZ h2) ?_⟩
 have k2:=k2.v
 have k1:=λh=>(k1 h).v
 revert h1 k1 k2
 show _->_->_->kD B P N ρ Q (toReg B P N fN M).1
 generalize(toReg B P N fN M).1=g
 intro h1 k2 k1
 obtain⟨o,kk,bI,s⟩:=g
 unfold X5 at h1 k1 k2
 cases o<;>simp only[RJ]at h1<;>first|(cases h1;done)|skip
 rename_i c
 simp only at k1 k2
 generalize hr:Cj P N c (eJ B bI) (dl B s)=q at h1 k1 k2
 cases q with
 |none=>cases h1
 |some q=>
  obtain⟨y,d,E1,x⟩:=q
  simp only[gy,Option.some.injEq,Prod.mk.injEq]at h1
  obtain⟨h1,h3⟩:=h1
  refine Ss y d E1 x hr λb hb=>?_
  have hE: ∀b,fF d (.bool b) E1=eJ B (je d (.a (.bool b)) (X6 t v ⟨.run c,kk,bI,s⟩)):=λb=>by rw[iB,h1];rfl
  rw[hE]
  cases b with
  |true=>exact k1 (h3 ▸ hb rfl)
  |false=>exact k2
end
end Go.Am
