/- A block of one's own, or a part of it, LENT to a function that computes: for the call it is immutable, and behind it one's own again. The answer must be a number or a truth value (so that it cannot name what was lent). -/
import Derived.Test.YtpbahncblggodaaGreatAmG
set_option linter.all false
namespace Go.Am
open Go.RowKit
def Hg:AV->Bool
 |.int _ _=>true
 |.bool _=>true
 |_=>false
theorem Ow{G G':bZ}{x:AV}{v:Value}(hx:Hg x=true)(h:V G x v):V G' x v:=by
 cases x<;>simp[Hg]at hx
 ·cases h;exact .bool _
 ·cases h;exact .int _ _
def Ox(s:St)(args li:List AV):Prop:= ∀G w vs,eA G s w->VL G args vs-> ∃G',eA G' ⟨[],s.bS⟩ w/\VL G' li vs
theorem Dl{P:Program}{f:FuncId}{args li:List AV}{x:AV}{s:St}(hl:Ox s args li)(hx:Hg x=true)(hf:dJ P f li ⟨[],s.bS⟩ λy t=>y=x/\t=⟨[],s.bS⟩):
  dJ P f args s λy t=>y=x/\t=s:=λG w vs hs hv=>by
 obtain⟨G',h1,h2⟩:=hl G w vs hs hv
 refine(hf G' w vs h1 h2).mono ?_
 rintro e w' ⟨v,G2,y,s2,rfl,hV,hS,hE,rfl,rfl⟩
 have hk: ∀b,b<w.heap.size->w'.heap[b]? =w.heap[b]?:=λb hb=>hE.keep b hb (by rintro⟨id,blk,r,hg,_⟩;simp[bH]at hg)
 refine⟨v,G,y,s,rfl,Ow hx hV,⟨λb o v hi=>?_,λid blk hg=>?_,hs.apart,hs.clear,hs.cq,hs.lt⟩,?_,rfl,rfl⟩
 ·have hc:=hs.gD b o v hi
  have hb:=GK hc
  rw[World.cell?_of_block (w:=w) (hk b hb)]
  exact hc
 ·rcases hs.heap id blk hg with⟨r,o,e1,e2,e3⟩|h
  ·refine .inl ⟨r,o,e1,?_,e3⟩
   have hb:r.block<w.heap.size:=by
    rcases EI r.block w.heap.size with h|h
    ·exact h
    ·rw[X6 h]at e2;cases e2
   rw[hk _ hb];exact e2
  ·exact .inr h
 ·exact⟨.refl G,hE.os,hE.tape,hE.output,hE.size,λb hb _=>hk b hb,λ_ _ _ h=>.inl h,λ_ _ h=>.inl h,λ_ _ h=>.inl ⟨_,h⟩,eu _,λ_ h=>h,λ_ _ h=>h,hE.drawn⟩
theorem xO{P:Prop}{G:bZ}{s:St}{w:World}(hs:eA G s w): ∀ks:List Nat,∃G' s',eA G' s' w/\s'.bS=s.bS/\rC G G'/\(∀id b,bH s'.heap id=some b->bH s.heap id=some b)/\(∀id,id ∉ ks->bH s'.heap id=bH s.heap id)/\
  ∀id∈ks,∀cz elems,bH s.heap id=some (.cells cz elems)->(∀bL len v,bL+len<=elems.length->V G (.ms id bL len) v->V G' (.sl false ((elems.drop bL).take len)) v)/\ ∀e v,elems=[e]->V G (.mp id 0 0) v->V G' (.ip e.cells) v
 | []=>⟨G,s,hs,rfl,.refl _,λ_ _ h=>h,λ_ _=>rfl,λ_ h=>by cases h⟩
 |i::ks=>by
  obtain⟨G1,s1,h1,hc,ep,oz,re,eP⟩:=xO (P:=P) hs ks
  by_cases hi:i∈ks
  ·refine⟨G1,s1,h1,hc,ep,oz,λid jC=>re id (λh=>jC (Iv _ h)),λid jC=>?_⟩
   rcases mB.1 jC with rfl|h
   ·exact eP _ hi
   ·exact eP _ h
  ·cases hg:bH s1.heap i with
   |none=>
    refine⟨G1,s1,h1,hc,ep,oz,λid jC=>re id (λh=>jC (Iv _ h)),λid jC cz elems he=>?_⟩
    rcases mB.1 jC with rfl|h
    ·rw[re _ hi,he]at hg;cases hg
    ·exact eP _ h cz elems he
   |some b=>
    cases b with
    |cells cz elems=>
     obtain⟨G2,h2,h3,h4,h5⟩:=jQ h1 hg (bL:=0) (len:=0) (by omega)
     refine⟨G2,_,h2,hc,ep.trans h3.le,λid b hb=>?_,λid jC=>?_,λid jC RH elems' he=>?_⟩
     ·rw[fw]at hb
      split at hb
      ·cases hb
      ·exact oz _ _ hb
     ·have: ¬(id=i\/id∈ks):=λh=>jC (mB.2 h)
      rw[fw,if_neg (λe=>this (.inl e.symm))]
      exact re _ (λh=>this (.inr h))
     ·rcases mB.1 jC with rfl|h
      ·have e:=oz _ _ hg
       rw[he]at e;cases e
       exact⟨λst n v hn hv=>h4 st n v hn (hv.mono ep),λe v he hv=>h5 e v he (hv.mono ep)⟩
      ·obtain⟨a,b⟩:=eP _ h RH elems' he
       exact⟨λst n v hn hv=>(a st n v hn hv).mono h3.le,λe v he hv=>(b e v he hv).mono h3.le⟩
    |loop l=>
     refine⟨G1,s1,h1,hc,ep,oz,λid jC=>re id (λh=>jC (Iv _ h)),λid jC cz elems he=>?_⟩
     rcases mB.1 jC with rfl|h
     ·have e:=oz _ _ hg
      rw[he]at e;cases e
     ·exact eP _ h cz elems he
    |gb=>
     refine⟨G1,s1,h1,hc,ep,oz,λid jC=>re id (λh=>jC (Iv _ h)),λid jC cz elems he=>?_⟩
     rcases mB.1 jC with rfl|h
     ·have e:=oz _ _ hg
      rw[he]at e;cases e
     ·exact eP _ h cz elems he
mutual
inductive LV (h:List (Nat×gp)):AV->AV->Prop
 |s {x:AV}:LV h x x
 |p {id cz st n:Nat} {elems:List AV} (hg:bH h id=some (.cells cz elems)) (hn:st+n<=elems.length):LV h (.ms id st n) (.sl false ((elems.drop st).take n))
 |m {id cz:Nat} {e:AV} (hg:bH h id=some (.cells cz [e])):LV h (.mp id 0 0) (.ip e.cells)
 |f {g:FuncId} {xs ys:List AV} (hl:Oy h xs ys):LV h (.fn g xs) (.fn g ys)
inductive Oy (h:List (Nat×gp)):List AV->List AV->Prop
 |z:Oy h [] []
 |k {x y:AV} {xs ys:List AV} (hx:LV h x y) (hs:Oy h xs ys):Oy h (x::xs) (y::ys)
end
theorem Oy.len{h:List (Nat×gp)}: ∀{xs ys:List AV},Oy h xs ys->xs.length=ys.length
 |_,_,.z=>rfl
 |_,_,.k _ hs=>by simp[hs.len]
mutual
theorem Zg{h:List (Nat×gp)}{G G':bZ}(ep:rC G G')
  (hz: ∀id cz elems,bH h id=some (.cells cz elems)->(∀bL len v,bL+len<=elems.length->V G (.ms id bL len) v->V G' (.sl false ((elems.drop bL).take len)) v)/\ ∀e v,elems=[e]->V G (.mp id 0 0) v->V G' (.ip e.cells) v):
  ∀{x y:AV},LV h x y-> ∀v,V G x v->V G' y v
 |_,_,.s,v,hv=>hv.mono ep
 |_,_,.p hg hn,v,hv=>(hz _ _ _ hg).1 _ _ _ hn hv
 |_,_,.m hg,v,hv=>(hz _ _ _ hg).2 _ _ rfl hv
 |_,_,.f hl,v,hv=>by
  cases hv with
  |fn _ fH vs dt hc=>
   refine .fn _ _ vs (by rw[<-hl.len];exact dt) λi y u hy hu=>?_
   obtain⟨x,h1,h2⟩:=Lf ep hz hl i y hy
   exact h2 u (hc i x u h1 hu)
theorem Lf{h:List (Nat×gp)}{G G':bZ}(ep:rC G G')
  (hz: ∀id cz elems,bH h id=some (.cells cz elems)->(∀bL len v,bL+len<=elems.length->V G (.ms id bL len) v->V G' (.sl false ((elems.drop bL).take len)) v)/\ ∀e v,elems=[e]->V G (.mp id 0 0) v->V G' (.ip e.cells) v):
  ∀{xs ys:List AV},Oy h xs ys-> ∀(i:Nat)y,ys[i]? =some y-> ∃x,xs[i]? =some x/\ ∀v,V G x v->V G' y v
 |_,_,.z,i,y,hy=>by simp at hy
 |_,_,.k hx hs,0,y,hy=>by
  simp at hy;subst hy;exact⟨_,rfl,Zg ep hz hx⟩
 |_,_,.k hx hs,i+1,y,hy=>by
  simp at hy
  obtain⟨x,h1,h2⟩:=Lf ep hz hs i y hy
  exact⟨x,by simpa using h1,h2⟩
end
theorem Ox.all{s:St}{h:List (Nat×gp)}(hh: ∀id b,bH h id=some b->bH s.heap id=some b){args li:List AV}(hl:Oy h args li):Ox s args li:=λG w vs hs hv=>by
 obtain⟨G',s',h1,h2,h3,h4,h5,h6⟩:=xO (P:=True) hs (h.map Prod.fst)
 refine⟨G',h1.drop (λi b hi=>by simp[bH]at hi) (by rw[h2];exact eu _),by rw[<-hl.len];exact hv.1,λi y u hy hu=>?_⟩
 have eP: ∀(h:List (Nat×gp))(id cz:Nat)(elems:List AV),bH h id=some (.cells cz elems)->id∈h.map Prod.fst:=by
  intro h id cz elems
  induction h with
  |nil=>intro e;simp[cR]at e
  |cons p r ih=>
   obtain⟨k,b⟩:=p
   intro e
   simp only[cG]at e
   split at e
   ·rename_i hk;subst hk;simp
   ·exact Iv _ (ih e)
 obtain⟨x,e1,e2⟩:=Lf (G':=G') h3 (λid cz elems hg=>h6 id (eP h id cz elems hg) cz elems (hh _ _ hg)) hl i y hy
 exact e2 u (hv.2 i x u e1 hu)
section
variable {B:iP} {P:Program} {N:Nat} {ρ:Option Nat} {Q:Exit->Env->St->Prop} {M:TM B.S} {α β:Type} {r:β}
theorem tz{op:Op}{bI:dD B.S}{g:FuncId}{l:List AV}{x:AV}{s:St}{K:AV->St->Prop}(h:nJ B P op bI=some (g,l))(hp:dJ P g l s λy t=>y=x/\t=s)(hk:K x s):ows P op K (ez B bI) s:=by
 unfold nJ at h
 unfold ows
 split at h
 ·rename_i f a hc
  split at h
  ·rename_i g' fH hf
   split at h
   ·rename_i l' hl
    cases he:enters P g' with
    |false=>simp[he]at h
    |true=>
     simp only[he,cond_true]at h
     cases h
     simp only[hc,ec,hf,gl,kO,hl,TV.er]
     refine⟨he,?_⟩
     rw[sd]at hp
     exact hp.mono λy t ⟨e1,e2⟩=>by subst e1;subst e2;exact hk
   ·cases h
  ·cases h
 ·cases h
theorem Jb{g:FuncId}{l:List AV}{v:TV B.S}(h:As B P M=some (g,l))(hp:dJ P g l (df B M.s) λy t=>y=v.er B.E/\t=df B M.s)(hk:ki B P N ρ Q (Xe M v)):ki B P N ρ Q M:=by
 obtain⟨o,k,bI,s⟩:=M
 unfold As at h
 split at h
 ·rename_i l0 y ho
  simp only at ho;subst ho
  split at h
  ·rename_i i l1
   split at h
   ·rename_i hg
    show EP _ _ _ _
    refine xP (B:=B) ?_
    simp only at hg
    rw[hg]
    have hk:pW P (YK P N ρ Q k y) l1 (ez B (iR i.dst v bI)) (df B s):=hk
    rw[ic]at hk
    exact .inl (tz h hp hk)
   ·cases h
  ·cases h
 ·rename_i l0 n y ho
  simp only at ho;subst ho
  split at h
  ·rename_i j c i sl l1
   split at h
   ·rename_i hg
    split at h
    ·rename_i hc
     intro hn
     show ES _ _ _ _
     refine qC (B:=B) ?_
     simp only at hg
     rw[hg]
     have hk:dq P (YK P N ρ Q k y) l1 (uQ B n) (ez B (iR i.dst v bI)) (df B s):=hk hn
     rw[ic]at hk
     have:=tz (K:=λv s'=>wg P (uQ B n) s' c/\dq P (YK P N ρ Q k y) l1 (uQ B n) (fp i.dst v (ez B bI)) s') (s:=df B s) h hp ⟨mK hn (λ_=>hn) hc (λp hp=>by cases hp),hk⟩
     rw[nK]at this
     exact this
    ·cases h
   ·cases h
  ·cases h
 ·cases h
mutual
inductive Lg (B:iP) (z:List (Nat×TB B.S)):TV B.S->TV B.S->Prop
 |s {x:TV B.S}:Lg B z x x
 |p {id sz c st n:Nat} {xs:List (B.S c)} (hg:bH z id=some (.lz sz c xs)) (hn:st+n<=xs.length):Lg B z (.a (.ms id st n)) (.l false c ((xs.drop st).take n))
 |q {id sz c st n:Nat} {xs:List (B.S c)} (hg:bH z id=some (.lz sz c xs)) (hn:st+n<=xs.length):Lg B z (.pt id st n) (.l false c ((xs.drop st).take n))
 |w {id sz c n:Nat} {xs:List (B.S c)} (hg:bH z id=some (.lz sz c xs)) (hn:n=xs.length):Lg B z (.a (.ms id 0 n)) (.l false c xs)
 |m {id sz:Nat} {x:TV B.S} {l:List (TV B.S)} (hg:bH z id=some (.cE sz [x])) (hl:dV B.E l=(x.er B.E).cells):Lg B z (.a (.mp id 0 0)) (.ip l)
 |f {g:FuncId} {xs ys:List (TV B.S)} (hl:TI B z xs ys):Lg B z (.fn g xs) (.fn g ys)
inductive TI (B:iP) (z:List (Nat×TB B.S)):List (TV B.S)->List (TV B.S)->Prop
 |z:TI B z [] []
 |k {x y:TV B.S} {xs ys:List (TV B.S)} (hx:Lg B z x y) (hs:TI B z xs ys):TI B z (x::xs) (y::ys)
end
mutual
theorem Vk{z:List (Nat×TB B.S)}: ∀{x y:TV B.S},Lg B z x y->LV (kh B z) (x.er B.E) (y.er B.E)
 |_,_,.s=>.s
 |_,_,@Lg.p _ _ id sz c st n xs hg hn=>by
  simp only[TV.er,J9,EJ]
  exact .p (by rw[fP,hg];rfl) (by simpa using hn)
 |_,_,@Lg.q _ _ id sz c st n xs hg hn=>by
  simp only[TV.er,J9,EJ]
  exact .p (by rw[fP,hg];rfl) (by simpa using hn)
 |_,_,@Lg.w _ _ id sz c n xs hg hn=>by
  simp only[TV.er]
  have:=LV.p (h:=kh B z) (st:=0) (n:=(xs.map (B.E c)).length) (by rw[fP,hg];rfl) (Nat.le_of_eq (Ba _))
  rw[WN,Bb,mA]at this
  rw[hn];exact this
 |_,_,.m hg hl=>by
  simp only[TV.er]
  rw[hl]
  exact .m (by rw[fP,hg];rfl)
 |_,_,.f hl=>by
  simp only[TV.er]
  exact .f (FI hl)
theorem FI{z:List (Nat×TB B.S)}: ∀{xs ys:List (TV B.S)},TI B z xs ys->Oy (kh B z) (dV B.E xs) (dV B.E ys)
 |_,_,.z=>.z
 |_,_,.k hx hs=>.k (Vk hx) (FI hs)
end
theorem Lh{o:Option α}{K:α->Option β}{g:FuncId}{X:α->TV B.S}(z:List (Nat×TB B.S))(args li:List (TV B.S))(hl:TI B z args li)(h:o.bind K=some r)
  (hf: ∀a,o=some a->cY B P g li X a) (k: ∀a,o=some a->K a=some r->RT B P N ρ Q (Xe (G B P N M).1 (X a)))
  (hb: ∀a,Hg ((X a).er B.E)=true:=by intro a;kernel_rfl)
  (hx:(As B P (G B P N M).1,Ld (G B P N M).1.s.heap z,(G B P N M).2.map Prod.fst)=(some (g,dV B.E args),z.map (λp=>some p.2),(G B P N M).2.map Prod.snd):=by kernel_rfl):RT B P N ρ Q M:=by
 simp only[Prod.mk.injEq]at hx
 obtain⟨h1,h2,h3⟩:=hx
 obtain⟨a,ha,hK⟩:=ml h
 refine rk h3 ⟨Jb h1 ?_ (k a ha hK).v⟩
 have hp:nz P g (dV B.E li) ((X a).er B.E):=hf a ha
 refine Dl (Ox.all (h:=kh B z) (λid b hg=>?_) (FI hl)) (hb a) (hp _)
 have h4: ∃b',bH z id=some b'/\fB B b'=b:=by
  rw[fP]at hg
  cases hz:bH z id with
  |none=>rw[hz]at hg;cases hg
  |some b'=>rw[hz]at hg;cases hg;exact⟨b',rfl,rfl⟩
 obtain⟨b',e1,e2⟩:=h4
 have h5:(id,b')∈z:=by
  clear h2 hl hf hg
  induction z with
  |nil=>simp[cR]at e1
  |cons p r ih=>
   obtain⟨k,c⟩:=p
   simp only[cG]at e1
   split at e1
   ·rename_i hk;cases hk;cases e1;exact List.mem_cons_self ..
   ·exact Iv _ (ih e1)
 have h6:=BG h2 _ h5
 show bH (kh B _++lS B _) id=_
 rw[cU,fP,h6]
 simp[e2]
theorem Oz{N:Nat}{ρ:Option Nat}{bI:Env}{s:St}{id cz n:Nat}{xs:List AV}(hg:bH s.heap id=some (.cells cz xs))(hc:eG xs=true):
  FD N ρ s.bS bI ⟨dT s.heap id (.cells cz (xs.take n)),s.bS⟩ bI s:=λhb h0 hx hn=>
 Di (N:=N) (ρ:=ρ) (bI:=bI) (π:=λi=>i) (s:=s) (S2:=⟨dT s.heap id (.cells cz (xs.take n)),s.bS⟩) ⟨λi b h=>by
   rw[eC]at h
   split at h
   ·rename_i e;subst e;cases h
    refine⟨_,hg,.inr ?_⟩
    conv=>rhs;rw[<-PJ n xs]
    exact .cut (.r (dY.2 λx hx=>dY.1 hc x (w8 hx)))
   ·exact⟨b,h,.inl rfl⟩,λ_ _=>rfl,λ_ _ _ _ _ _ h=>h,λi b h=>by
   rw[eC]at h
   split at h
   ·rename_i e;subst e;exact hn.iE.lt _ _ hg
   ·exact hn.iE.lt _ _ h,eu _,λi h=>by
   rw[eC]
   split
   ·rename_i e;subst e;rw[hg]at h;cases h
   ·exact h⟩ hb h0 hx hn
theorem tCt(fE id sz c:Nat)(xs:List (B.S c))(n:Nat)(k:RT B P N ρ Q (OA B id (.lz sz c (xs.take n)) (toReg B P N fE M).1))
  (hx:(jU (toReg B P N fE M).1.o,bH (toReg B P N fE M).1.s.heap id,(toReg B P N fE M).2.map Prod.fst)=(true,some (.lz sz c xs),(toReg B P N fE M).2.map Prod.snd):=by kernel_rfl):RT B P N ρ Q M:=by
 simp only[Prod.mk.injEq]at hx
 obtain⟨h1,h2,h3⟩:=hx
 refine⟨kl (dQ h3) ?_⟩
 have k:=k.v
 unfold OA at k
 revert h1 h2 k
 show _->_->_->ki B P N ρ Q (toReg B P N fE M).1
 generalize(toReg B P N fE M).1=g
 intro h1 h2 k
 obtain⟨o,kk,bI,s⟩:=g
 have hg:bH (kh B s.heap) id=some (.cells sz (xs.map (B.E c))):=by rw[fP,h2];rfl
 have e1:lS B (dT s.heap id (.lz sz c (xs.take n)))=lS B s.heap:=xQ h2 rfl
 have e:df B ⟨dT s.heap id (.lz sz c (xs.take n)),s.bS⟩=⟨dT (df B s).heap id (.cells sz ((xs.map (B.E c)).take n)),(df B s).bS⟩:=by
  simp only[df,BH]
  rw[e1,Dm hg,<-J9]
  rfl
 refine FF h1 (S2:=⟨dT s.heap id (.lz sz c (xs.take n)),s.bS⟩) ?_ k
 rw[e]
 have Zh:bH (df B s).heap id=some (.cells sz (xs.map (B.E c))):=by
  show bH (kh B s.heap++lS B s.heap) id=_
  rw[cU,hg]
 intro G0 s0 w0 G w a hb h0 hx hn
 exact Oz Zh (dE _ _ (B.hc c)) hb h0 hx hn
theorem RI{N:Nat}{ρ:Option Nat}{bI E2:Env}{s S2:St}{id cz:Nat}{elems:List AV}(hg:bH s.heap id=some (.cells cz elems))
  (hE: ∀t x,bH E2 t=some x-> ∃y,bH bI t=some y/\Fz id elems x y) (hS: ∀i b,bH S2.heap i=some b->i≠id/\ ∃b',bH s.heap i=some b'/\P5 id elems b b') (hc:S2.bS=s.bS)
  (hd: ∀i,bH s.heap i=some .gb->bH S2.heap i=some .gb):FD N ρ s.bS E2 S2 bI s:=by
 intro G0 s0 w0 G w a CU h00 N8 hn
 obtain⟨G',h1,h2,h3⟩:=jQ hn.iE (bL:=0) (len:=0) hg (zX _)
 have del: ∀{i b},i≠id->bH s.heap i=some b->bH (eh s.heap id) i=some b:=λ{i b}eJ hb=>by
  rw[fw,if_neg (λe=>eJ e.symm)];exact hb
 have Rx:eA G' S2 w:=⟨h1.gD,λi b hi=>by
   obtain⟨eJ,b',mT,hf⟩:=hS i b hi
   rcases h1.heap i b' (del eJ mT)with⟨r,o,e1,e2,_⟩|⟨e1,sz,h0,e2⟩
   ·refine .inl ⟨r,o,e1,e2,?_⟩
    rcases hn.iE.heap i b' mT with⟨r',o',q1,q2,q3⟩|⟨q1,_,_,q2⟩
    ·rw[h2.le.own _ _ q1]at e1;cases e1
     rw[e2]at q2;cases q2
     exact hf.holds h2.le h3 q3
    ·rw[h2.stay i (hn.iE.lt _ _ mT) q1]at e1;cases e1
   ·refine .inr ⟨e1,sz,h0,?_⟩
    subst e2
    cases hf with
    |r=>rfl
    |cells hl=>
     rename_i xs
     have:xs=[]:=JO (by simpa using hl.length)
     rw[this],
  λi i' b b' r r' g1 g2=>by
   obtain⟨n1,c1,k1,_⟩:=hS i b g1
   obtain⟨n2,c2,k2,_⟩:=hS i' b' g2
   exact h1.apart i i' c1 c2 r r' (del n1 k1) (del n2 k2),
  λi b r o g1=>by
   obtain⟨n1,c1,k1,_⟩:=hS i b g1
   exact h1.clear i c1 r o (del n1 k1),
  λi hi=>h1.cq i (by rw[hc]at hi;exact hi),
  λi b g1=>by
   obtain⟨n1,c1,k1,_⟩:=hS i b g1
   rw[hc];exact hn.iE.lt i c1 k1⟩
 have K0:Ext G s w G' S2 w:=⟨h2.le,rfl,rfl,rfl,eu _,λ_ _ _=>rfl,h2.jh,h2.iK,λi b g1=>by
   obtain⟨n1,c1,k1,_⟩:=hS i b g1
   exact .inl ⟨c1,k1⟩,by rw[hc];exact eu _,hd,h2.stay,h2.drawn⟩
 refine⟨G',⟨Rx,λt' x hx=>?_,hn.size,hn.lQ.ext K0,hn.known.le h2.le⟩,N8.trans h00 K0⟩
 obtain⟨y,hy,hf⟩:=hE t' x hx
 obtain⟨q1,q2⟩:=hn.bI _ _ hy
 exact⟨q1,hf.V h2.le h3 q2⟩
theorem OB{o:TO B.S}{k:List Fr}{E2 bI:dD B.S}{S2 s:dI B.S}(ho:jU o=true)(h:FD N ρ s.bS (ez B E2) (df B S2) (ez B bI) (df B s))(hk:ki B P N ρ Q ⟨o,k,E2,S2⟩):ki B P N ρ Q ⟨o,k,bI,s⟩:=by
 cases o<;>simp only[jU]at ho<;>first|(cases ho;done)|skip
 ·have hk:wj P N ρ Q ⟨.run _,k,ez B E2,df B S2⟩:=hk
  exact rZ (bQ:=s.bS) (eu _) h hk
 ·have hk:wj P N ρ Q ⟨.out _,k,ez B E2,df B S2⟩:=hk
  exact rZ (bQ:=s.bS) (eu _) h hk
theorem OC{id:Nat}{M:TM B.S}(ho:jU M.o=true)(hd:Jc B id M.s=true)(hq: ∀p∈(JV id M).2,p.1=p.2)(h:ki B P N ρ Q (JV id M).1):ki B P N ρ Q M:=by
 obtain⟨o,k,bI,s⟩:=M
 simp only[Jc,eW]at hd
 obtain⟨⟨hd,hw⟩,Li⟩:=hd
 unfold JV at hq h
 split at hq
 ·rename_i l len p hf
  rw[hf]at h
  obtain⟨cz,elems,hg,hl,hn,hp⟩:=Hh hf
  have Vl: ∀x:TV B.S,(∀q∈(CL id l len p 4 x).2,q.1=q.2)->Fz id elems ((CL id l len p 4 x).1.er B.E) (x.er B.E):=λx=>xR hp hl hn
  have h:ki B P N ρ Q ⟨o,k,(vB (CL id l len p 4) bI).1,⟨(kx id (CL id l len p 4) s.heap).1,s.bS⟩⟩:=h
  have h1:=xS Vl (bI:=bI) λp hp=>hq p (CF _ hp)
  have h2:=wG (id:=id) Vl (h:=s.heap) λp hp=>hq p (EK _ hp)
  refine OB ho (λ{G0 s0 w0 G w a}a1 a2 a3 a4=>RI (S2:=df B ⟨(kx id (CL id l len p 4) s.heap).1,s.bS⟩) hg h1 ?_ rfl (λi e=>absurd e (nD (wH (n:=s.bS) hd) i)) a1 a2 a3 a4) h
  intro i b hb
  simp only[df,BI Li]at hb
  rw[cU]at hb
  split at hb
  ·rename_i x hx
   cases hb
   obtain⟨g1,b',g2,g3⟩:=h2 i _ hx
   exact⟨g1,b',by simp only[df];rw[cU,g2],g3⟩
  ·obtain⟨w,b',g1,g2⟩:=xH hw hb
   refine⟨λe=>?_,b,iZ hw g1 g2,.r _⟩
   subst e
   obtain⟨f1,f2⟩:=eT g2
   rw[xT Li g1 f1]at f2;cases f2
 ·have:=hq (.any,.ij) (by simp);cases this
theorem Xf(fE id:Nat)(k:RT B P N ρ Q (JV id (toReg B P N fE M).1).1)
  (hx:(jU (toReg B P N fE M).1.o,Jc B id (toReg B P N fE M).1.s,(toReg B P N fE M).2.map Prod.fst,(JV id (toReg B P N fE M).1).2.map Prod.fst)=(true,true,(toReg B P N fE M).2.map Prod.snd,(JV id (toReg B P N fE M).1).2.map Prod.snd):=by kernel_rfl):RT B P N ρ Q M:=by
 simp only[Prod.mk.injEq]at hx
 obtain⟨h1,h2,h3,h4⟩:=hx
 exact⟨kl (dQ h3) (OC h1 h2 (dQ h4) k.v)⟩
theorem Hi{tA tC:Type}{o:Option (α⊕(tA⊕tC))}{K:α->Option β}{K':tA->Option β}{Qb:tC->Option β}{g:FuncId}{cn:List (TV B.S)}{H0:dI B.S}{X:α->TV B.S}{X':tA->TV B.S}{wI:tC->TV B.S}{H1:α->dI B.S}{lT:tA->dI B.S}{lU:tC->dI B.S}(h:o.bind (Sum.elim K (Sum.elim K' Qb))=some r)
  (hf: ∀a,o=some a->cP B P g cn H0 (Sum.elim X (Sum.elim X' wI)) (Sum.elim H1 (Sum.elim lT lU)) a)
  (k: ∀a,o=some (.inl a)->K a=some r->RT B P N ρ Q (rm B (G B P N M).1 (eI B cn H0 (X a) (H1 a) (mZ (dA B P (G B P N M).1)) (G B P N M).1.s).1 (eI B cn H0 (X a) (H1 a) (mZ (dA B P (G B P N M).1)) (G B P N M).1.s).2.1))
  (k': ∀a,o=some (.inr (.inl a))->K' a=some r->RT B P N ρ Q (rm B (G B P N M).1 (eI B cn H0 (X' a) (lT a) (mZ (dA B P (G B P N M).1)) (G B P N M).1.s).1 (eI B cn H0 (X' a) (lT a) (mZ (dA B P (G B P N M).1)) (G B P N M).1.s).2.1))
  (Vm: ∀a,o=some (.inr (.inr a))->Qb a=some r->RT B P N ρ Q (rm B (G B P N M).1 (eI B cn H0 (wI a) (lU a) (mZ (dA B P (G B P N M).1)) (G B P N M).1.s).1 (eI B cn H0 (wI a) (lU a) (mZ (dA B P (G B P N M).1)) (G B P N M).1.s).2.1))
  (hx: ∀a,(RJ (dA B P (G B P N M).1),(eI B cn H0 (X a) (H1 a) (mZ (dA B P (G B P N M).1)) (G B P N M).1.s).2.2.map Prod.fst,(jD B P (G B P N M).1 (eI B cn H0 (X a) (H1 a) (mZ (dA B P (G B P N M).1)) (G B P N M).1.s).2.1).map Prod.fst,(G B P N M).2.map Prod.fst)=
   (some g,(eI B cn H0 (X a) (H1 a) (mZ (dA B P (G B P N M).1)) (G B P N M).1.s).2.2.map Prod.snd,(jD B P (G B P N M).1 (eI B cn H0 (X a) (H1 a) (mZ (dA B P (G B P N M).1)) (G B P N M).1.s).2.1).map Prod.snd,(G B P N M).2.map Prod.snd):=by intro a;kernel_rfl)
  (pp: ∀a,(RJ (dA B P (G B P N M).1),(eI B cn H0 (X' a) (lT a) (mZ (dA B P (G B P N M).1)) (G B P N M).1.s).2.2.map Prod.fst,(jD B P (G B P N M).1 (eI B cn H0 (X' a) (lT a) (mZ (dA B P (G B P N M).1)) (G B P N M).1.s).2.1).map Prod.fst,(G B P N M).2.map Prod.fst)=
   (some g,(eI B cn H0 (X' a) (lT a) (mZ (dA B P (G B P N M).1)) (G B P N M).1.s).2.2.map Prod.snd,(jD B P (G B P N M).1 (eI B cn H0 (X' a) (lT a) (mZ (dA B P (G B P N M).1)) (G B P N M).1.s).2.1).map Prod.snd,(G B P N M).2.map Prod.snd):=by intro a;kernel_rfl)
  (xU: ∀a,(RJ (dA B P (G B P N M).1),(eI B cn H0 (wI a) (lU a) (mZ (dA B P (G B P N M).1)) (G B P N M).1.s).2.2.map Prod.fst,(jD B P (G B P N M).1 (eI B cn H0 (wI a) (lU a) (mZ (dA B P (G B P N M).1)) (G B P N M).1.s).2.1).map Prod.fst,(G B P N M).2.map Prod.fst)=
   (some g,(eI B cn H0 (wI a) (lU a) (mZ (dA B P (G B P N M).1)) (G B P N M).1.s).2.2.map Prod.snd,(jD B P (G B P N M).1 (eI B cn H0 (wI a) (lU a) (mZ (dA B P (G B P N M).1)) (G B P N M).1.s).2.1).map Prod.snd,(G B P N M).2.map Prod.snd):=by intro a;kernel_rfl):RT B P N ρ Q M:=by
 obtain⟨a,ha,hK⟩:=ml h
 cases a with
 |inl a=>
  have tD:cP B P g cn H0 X H1 a:=hf (.inl a) ha
  exact uR tD (k a ha hK) (hx a)
 |inr a=>cases a with
  |inl a=>
   have tD:cP B P g cn H0 X' lT a:=hf (.inr (.inl a)) ha
   exact uR tD (k' a ha hK) (pp a)
  |inr a=>
   have tD:cP B P g cn H0 wI lU a:=hf (.inr (.inr a)) ha
   exact uR tD (Vm a ha hK) (xU a)
theorem Lj{tA tC:Type}{o:Option (α⊕(tA⊕tC))}{K:α->Option β}{K':tA->Option β}{Qb:tC->Option β}{iG:Nat}{cn:List (TV B.S)}{H0:dI B.S}{X:α->TV B.S}{X':tA->TV B.S}{wI:tC->TV B.S}{H1:α->dI B.S}{lT:tA->dI B.S}{lU:tC->dI B.S}(h:o.bind (Sum.elim K (Sum.elim K' Qb))=some r)
  (hf: ∀a,o=some a->tF B P iG cn H0 (Sum.elim X (Sum.elim X' wI)) (Sum.elim H1 (Sum.elim lT lU)) a)
  (k: ∀a,o=some (.inl a)->K a=some r->RT B P N ρ Q (rm B (G B P N M).1 (na B iG cn H0 (X a) (H1 a) (G B P N M).1).1 (na B iG cn H0 (X a) (H1 a) (G B P N M).1).2.1))
  (k': ∀a,o=some (.inr (.inl a))->K' a=some r->RT B P N ρ Q (rm B (G B P N M).1 (na B iG cn H0 (X' a) (lT a) (G B P N M).1).1 (na B iG cn H0 (X' a) (lT a) (G B P N M).1).2.1))
  (Vm: ∀a,o=some (.inr (.inr a))->Qb a=some r->RT B P N ρ Q (rm B (G B P N M).1 (na B iG cn H0 (wI a) (lU a) (G B P N M).1).1 (na B iG cn H0 (wI a) (lU a) (G B P N M).1).2.1))
  (hx: ∀a,((lF B (G B P N M).1).isSome,(na B iG cn H0 (X a) (H1 a) (G B P N M).1).2.2.map Prod.fst,(jD B P (G B P N M).1 (na B iG cn H0 (X a) (H1 a) (G B P N M).1).2.1).map Prod.fst,(G B P N M).2.map Prod.fst)=
   (true,(na B iG cn H0 (X a) (H1 a) (G B P N M).1).2.2.map Prod.snd,(jD B P (G B P N M).1 (na B iG cn H0 (X a) (H1 a) (G B P N M).1).2.1).map Prod.snd,(G B P N M).2.map Prod.snd):=by intro a;kernel_rfl)
  (pp: ∀a,((lF B (G B P N M).1).isSome,(na B iG cn H0 (X' a) (lT a) (G B P N M).1).2.2.map Prod.fst,(jD B P (G B P N M).1 (na B iG cn H0 (X' a) (lT a) (G B P N M).1).2.1).map Prod.fst,(G B P N M).2.map Prod.fst)=
   (true,(na B iG cn H0 (X' a) (lT a) (G B P N M).1).2.2.map Prod.snd,(jD B P (G B P N M).1 (na B iG cn H0 (X' a) (lT a) (G B P N M).1).2.1).map Prod.snd,(G B P N M).2.map Prod.snd):=by intro a;kernel_rfl)
  (xU: ∀a,((lF B (G B P N M).1).isSome,(na B iG cn H0 (wI a) (lU a) (G B P N M).1).2.2.map Prod.fst,(jD B P (G B P N M).1 (na B iG cn H0 (wI a) (lU a) (G B P N M).1).2.1).map Prod.fst,(G B P N M).2.map Prod.fst)=
   (true,(na B iG cn H0 (wI a) (lU a) (G B P N M).1).2.2.map Prod.snd,(jD B P (G B P N M).1 (na B iG cn H0 (wI a) (lU a) (G B P N M).1).2.1).map Prod.snd,(G B P N M).2.map Prod.snd):=by intro a;kernel_rfl):RT B P N ρ Q M:=by
 obtain⟨a,ha,hK⟩:=ml h
 cases a with
 |inl a=>
  have tD:tF B P iG cn H0 X H1 a:=hf (.inl a) ha
  exact uS tD (k a ha hK) (hx a)
 |inr a=>cases a with
  |inl a=>
   have tD:tF B P iG cn H0 X' lT a:=hf (.inr (.inl a)) ha
   exact uS tD (k' a ha hK) (pp a)
  |inr a=>
   have tD:tF B P iG cn H0 wI lU a:=hf (.inr (.inr a)) ha
   exact uS tD (Vm a ha hK) (xU a)
theorem Vn{tA tC:Type}{o:Option (α⊕(tA⊕tC))}{K:α->Option β}{K':tA->Option β}{Qb:tC->Option β}{gf:FuncId}{cn:List (TV B.S)}{H0:dI B.S}{X:α->TV B.S}{X':tA->TV B.S}{wI:tC->TV B.S}{H1:α->dI B.S}{lT:tA->dI B.S}{lU:tC->dI B.S}(h:o.bind (Sum.elim K (Sum.elim K' Qb))=some r)(cV:List Nat)(c:Nat)
  (hf: ∀a,o=some a->cP B P gf cn H0 (Sum.elim X (Sum.elim X' wI)) (Sum.elim H1 (Sum.elim lT lU)) a)
  (k: ∀a,o=some (.inl a)->K a=some r->RT B P N ρ Q (Qc ρ cV (G B P N M).1 (tG B P N ρ cV c cn H0 (X a) (H1 a) (G B P N M).1).2.1))
  (k': ∀a,o=some (.inr (.inl a))->K' a=some r->RT B P N ρ Q (Qc ρ cV (G B P N M).1 (tG B P N ρ cV c cn H0 (X' a) (lT a) (G B P N M).1).2.1))
  (Vm: ∀a,o=some (.inr (.inr a))->Qb a=some r->RT B P N ρ Q (Qc ρ cV (G B P N M).1 (tG B P N ρ cV c cn H0 (wI a) (lU a) (G B P N M).1).2.1))
  (hx: ∀a,(Qd (NJ P N cV (G B P N M).1),Qe ρ (G B P N M).1.s&&(NK ((G B P N M).1.s.bS+Dn ρ) (tG B P N ρ cV c cn H0 (X a) (H1 a) (G B P N M).1).2.1).isSome,(tG B P N ρ cV c cn H0 (X a) (H1 a) (G B P N M).1).2.2.map Prod.fst,(G B P N M).2.map Prod.fst)=
   (some (gf,B.C c),true,(tG B P N ρ cV c cn H0 (X a) (H1 a) (G B P N M).1).2.2.map Prod.snd,(G B P N M).2.map Prod.snd):=by intro a;kernel_rfl)
  (pp: ∀a,(Qd (NJ P N cV (G B P N M).1),Qe ρ (G B P N M).1.s&&(NK ((G B P N M).1.s.bS+Dn ρ) (tG B P N ρ cV c cn H0 (X' a) (lT a) (G B P N M).1).2.1).isSome,(tG B P N ρ cV c cn H0 (X' a) (lT a) (G B P N M).1).2.2.map Prod.fst,(G B P N M).2.map Prod.fst)=
   (some (gf,B.C c),true,(tG B P N ρ cV c cn H0 (X' a) (lT a) (G B P N M).1).2.2.map Prod.snd,(G B P N M).2.map Prod.snd):=by intro a;kernel_rfl)
  (xU: ∀a,(Qd (NJ P N cV (G B P N M).1),Qe ρ (G B P N M).1.s&&(NK ((G B P N M).1.s.bS+Dn ρ) (tG B P N ρ cV c cn H0 (wI a) (lU a) (G B P N M).1).2.1).isSome,(tG B P N ρ cV c cn H0 (wI a) (lU a) (G B P N M).1).2.2.map Prod.fst,(G B P N M).2.map Prod.fst)=
   (some (gf,B.C c),true,(tG B P N ρ cV c cn H0 (wI a) (lU a) (G B P N M).1).2.2.map Prod.snd,(G B P N M).2.map Prod.snd):=by intro a;kernel_rfl):RT B P N ρ Q M:=by
 obtain⟨a,ha,hK⟩:=ml h
 cases a with
 |inl a=>
  have tD:cP B P gf cn H0 X H1 a:=hf (.inl a) ha
  exact TJ cV c tD (k a ha hK) (hx a)
 |inr a=>cases a with
  |inl a=>
   have tD:cP B P gf cn H0 X' lT a:=hf (.inr (.inl a)) ha
   exact TJ cV c tD (k' a ha hK) (pp a)
  |inr a=>
   have tD:cP B P gf cn H0 wI lU a:=hf (.inr (.inr a)) ha
   exact TJ cV c tD (Vm a ha hK) (xU a)
end
def Wk(G:bZ)(x y:AV):Prop:=(y.cS=true->x.cS=true)/\(∀v,V G y v->V G x v)/\x.cells.length=y.cells.length/\
 ∀(k:Nat)a b,x.cells[k]? =some a->y.cells[k]? =some b->(b.cS=true->a.cS=true)/\ ∀v,V G b v->V G a v
theorem Wk.refl{G:bZ}(x:AV):Wk G x x:=⟨id,λ_ h=>h,rfl,λk a b h1 h2=>by rw[h1]at h2;cases h2;exact⟨id,λ_ h=>h⟩⟩
theorem Wk.one{G:bZ}{x y:AV}(hx:x.cells=[x])(hy:y.cells=[y])(h1:y.cS=true->x.cS=true)(h2: ∀v,V G y v->V G x v):Wk G x y:=⟨h1,h2,by rw[hx,hy];rfl,λk a b ha hb=>by
 rw[hx]at ha;rw[hy]at hb
 cases k with
 |zero=>simp at ha hb;subst ha;subst hb;exact⟨h1,h2⟩
 |succ k=>simp at ha⟩
def xV(G:bZ):List AV->List AV->Prop
 | [],[]=>True
 |a::r,b::s=>Wk G a b/\xV G r s
 |_,_=>False
theorem xV.len{G:bZ}: ∀{l m:List AV},xV G l m->l.length=m.length
 | [],[],_=>rfl
 |a::r,b::s,h=>by simp[xV.len h.2]
 | [],_::_,h=>h.elim
 |_::_,[],h=>h.elim
theorem xV.get{G:bZ}: ∀{l m:List AV},xV G l m-> ∀(i:Nat)a b,l[i]? =some a->m[i]? =some b->Wk G a b
 | [],[],_,i,a,b,h,_=>by simp at h
 |a::r,b::s,h,0,x,y,h1,h2=>by simp at h1 h2;subst h1;subst h2;exact h.1
 |a::r,b::s,h,i+1,x,y,h1,h2=>xV.get h.2 i x y (by simpa using h1) (by simpa using h2)
 | [],_::_,h,_,_,_,_,_=>h.elim
 |_::_,[],h,_,_,_,_,_=>h.elim
theorem xV.refl{G:bZ}: ∀l:List AV,xV G l l
 | []=>trivial
 |a::r=>⟨.refl a,xV.refl r⟩
theorem xV.di{G:bZ}: ∀{l m:List AV},xV G l m->(di l).length=(di m).length/\ ∀(k:Nat)a b,(Go.Am.di l)[k]? =some a->(Go.Am.di m)[k]? =some b->(b.cS=true->a.cS=true)/\ ∀v,V G b v->V G a v
 | [],[],_=>⟨rfl,λk a b h=>by simp[Go.Am.di]at h⟩
 |x::r,y::s,h=>by
  obtain⟨h1,h2⟩:=xV.di h.2
  obtain⟨_,_,h3,h4⟩:=h.1
  simp only[Go.Am.di,E5]at h1 h2 |-
  refine⟨by simp[h1,h3],λk a b ha hb=>?_⟩
  by_cases hk:k<x.cells.length
  ·rw[nq hk]at ha
   rw[nq (by omega)]at hb
   exact h4 k a b ha hb
  ·rw[pn (by omega)]at ha
   rw[pn (by omega),<-h3]at hb
   exact h2 _ a b ha hb
 | [],_::_,h=>h.elim
 |_::_,[],h=>h.elim
theorem xV.back{G:bZ}{l m:List AV}(h:xV G l m){i:Nat}{a:AV}(ha:l[i]? =some a): ∃b,m[i]? =some b/\Wk G a b:=by
 have hi:=(fM.1 ha).1
 rw[h.len]at hi
 exact⟨_,dC hi,h.get i a _ ha (dC hi)⟩
theorem xV.sl{G:bZ}{b:Bool}{l m:List AV}(h:xV G l m):Wk G (.sl false l) (.sl b m):=.one rfl rfl (λ_=>rfl) λv hv=>by
 generalize hx:AV.sl b m=x at hv
 cases hv with
 |slnil full bQ cap hf hb=>
  injection hx with e1 e2
  subst e2
  have:l=[]:=JO h.len
  subst this
  exact .slnil false bQ cap (λh=>by cases h) hb
 |sl full elems b off cz cap val jG jB dS jg gF hV=>
  injection hx with e1 e2
  subst e2
  obtain⟨f1,f2⟩:=h.di
  rw[<-h.len]at jG gF |-
  refine .sl false l b off cz cap val jG (λh=>by cases h) (λe he=>?_) (λx hx=>?_) gF λk x hx=>?_
  ·obtain⟨i,hi,hg⟩:=pA he
   obtain⟨e',h1,h2⟩:=h.back (i:=i) (a:=e) (by rw[dC hi,hg])
   rw[h2.2.2.1]
   exact dS e' (gx h1)
  ·obtain⟨i,hi,hg⟩:=pA hx
   have Bm:=hi
   rw[f1]at Bm
   exact(f2 i x _ (by rw[dC hi,hg]) (dC Bm)).1 (jg _ (zo Bm))
  ·have hi:=(fM.1 hx).1
   rw[f1]at hi
   exact(f2 k x _ hx (dC hi)).2 _ (hV k _ (dC hi))
 |_=>cases hx
theorem xV.agg{G:bZ}{l m:List AV}(h:xV G l m):Wk G (.agg l) (.agg m):=by
 refine⟨λh=>(by cases h),λv hv=>?_,h.len,λk a b ha hb=>⟨(h.get k a b ha hb).1,(h.get k a b ha hb).2.1⟩⟩
 generalize hx:AV.agg m=x at hv
 cases hv with
 |agg cs vs dt hV=>
  injection hx with e1
  subst e1
  refine .agg l vs (h.len.trans dt) λi x y hx hy=>?_
  obtain⟨b,h1,h2⟩:=h.back hx
  exact h2.2.1 _ (hV i b y h1 hy)
 |_=>cases hx
mutual
def Hj{S:Nat->Type}(E:(c:Nat)->S c->AV):AV->TV S->Option iH
 |x,.s _ cs=>match x with
  |.sl false l=>zJ E l cs
  |_=>none
 |x,.l _ c xs=>match x with
  |.sl false l=>some [(.sl false l,.sl false (xs.map (E c)))]
  |_=>none
 |x,.agg cs=>match x with
  |.agg l=>zJ E l cs
  |_=>none
 |x,.a y=>match y with
  |.sl _ m=>(match x with
   |.sl false l=>some [(.sl false l,.sl false m)]
   |_=>none)
  |y=>some [(x,y)]
 |x,y=>some [(x,y.er E)]
def zJ{S:Nat->Type}(E:(c:Nat)->S c->AV):List AV->List (TV S)->Option iH
 | [],[]=>some []
 |x::r,y::s=>rn (Hj E x y) (zJ E r s)
 |_,_=>none
end
section
variable {B:iP} {G:bZ}
mutual
theorem RK: ∀{x:AV}{y:TV B.S}{q:iH},Hj B.E x y=some q->(∀p∈q,p.1=p.2)->Wk G x (y.er B.E)
 |x,.s b cs,q,h,hq=>by
  unfold Hj at h
  split at h
  ·exact(wJ h hq).sl
  ·cases h
 |x,.l b c xs,q,h,hq=>by
  unfold Hj at h
  split at h
  ·have:=one h hq
   injection this with _ e
   subst e
   exact(xV.refl _).sl
  ·cases h
 |x,.agg cs,q,h,hq=>by
  unfold Hj at h
  split at h
  ·exact(wJ h hq).agg
  ·cases h
 |x,.a y,q,h,hq=>by
  unfold Hj at h
  split at h
  ·split at h
   ·have:=one h hq
    injection this with _ e
    subst e
    exact(xV.refl _).sl
   ·cases h
  ·have:=one h hq;subst this;exact .refl _
 |x,.i k n,q,h,hq=>by unfold Hj at h;have:=one h hq;subst this;exact .refl _
 |x,.b t,q,h,hq=>by unfold Hj at h;have:=one h hq;subst this;exact .refl _
 |x,.z t,q,h,hq=>by unfold Hj at h;have:=one h hq;subst this;exact .refl _
 |x,.v c y,q,h,hq=>by unfold Hj at h;have:=one h hq;subst this;exact .refl _
 |x,.dW cs,q,h,hq=>by unfold Hj at h;have:=one h hq;subst this;exact .refl _
 |x,.ip cs,q,h,hq=>by unfold Hj at h;have:=one h hq;subst this;exact .refl _
 |x,.fn f cs,q,h,hq=>by unfold Hj at h;have:=one h hq;subst this;exact .refl _
 |x,.pt i a n,q,h,hq=>by unfold Hj at h;have:=one h hq;subst this;exact .refl _
theorem wJ: ∀{l:List AV}{m:List (TV B.S)}{q:iH},zJ B.E l m=some q->(∀p∈q,p.1=p.2)->xV G l (dV B.E m)
 | [],[],q,h,hq=>trivial
 |x::r,y::s,q,h,hq=>by
  unfold zJ at h
  obtain⟨⟨q1,h1,e1⟩,q2,h2,e2⟩:=fQ h hq
  exact⟨RK h1 e1,wJ h2 e2⟩
 | [],_::_,q,h,hq=>by unfold zJ at h;cases h
 |_::_,[],q,h,hq=>by unfold zJ at h;cases h
end
theorem Xg{P:Program}{g:FuncId}{args:List (TV B.S)}{α:Type}{X:α->TV B.S}{o:Option α}(li:List (TV B.S))(h: ∀a,o=some a->cY B P g args X a)
  (hw:((zJ B.E (dV B.E args) li).isSome,(vC (zJ B.E (dV B.E args) li)).map Prod.fst)=(true,(vC (zJ B.E (dV B.E args) li)).map Prod.snd):=by kernel_rfl): ∀a,o=some a->cY B P g li X a:=λa ho s G w vs hs hv=>by
 simp only[Prod.mk.injEq]at hw
 obtain⟨q,hq,hp⟩:=xW (dQ hw.2)
 have hl:xV G (dV B.E args) (dV B.E li):=wJ hq hp
 exact h a ho s G w vs hs ⟨hl.len.trans hv.1,λi x y hx hy=>by
  obtain⟨b,h1,h2⟩:=hl.back hx
  exact h2.2.1 y (hv.2 i b y h1 hy)⟩
end
section
variable {B:iP} {P:Program} {N:Nat} {ρ:Option Nat} {Q:Exit->Env->St->Prop} {M:TM B.S}
theorem Qf{S:Nat->Type}{E:(c:Nat)->S c->AV}{f:Bool}{c:Nat}{x:List (S c)}(h:mY ((TV.l f c x).er E)):x=[]:=Va h
theorem Lk{S:Nat->Type}{E:(c:Nat)->S c->AV}{i:Nat}{α:Type}{x:List α}(h:mY ((TV.a (.ms i 0 x.length):TV S).er E)):x=[]:=Vb h
def Xh(B:iP)(P:Program)(N:Nat)(M:TM B.S):Option (Code×Option Nat×Env×AV):=match M.o with
 |.run c=>BD P N c (ez B M.bI) (df B M.s)
 |_=>none
def nlM{B:iP}(o:Option (Code×Option Nat×Env×AV))(E1:dD B.S)(b:Bool)(M:TM B.S):TM B.S:=match o with
 |some (y,d,_,_)=>⟨.run y,M.k,iR d (.a (.bool b)) E1,M.s⟩
 |none=>M
def Xi{B:iP}(t:Nat)(v:TV B.S)(M:TM B.S):dD B.S:=dT M.bI t v
theorem Vo(fE t:Nat)(v:TV B.S)(k1:mY (v.er B.E)->RT B P N ρ Q (nlM (Xh B P N (toReg B P N fE M).1) (Xi t v (toReg B P N fE M).1) true (toReg B P N fE M).1))
  (k2:RT B P N ρ Q (nlM (Xh B P N (toReg B P N fE M).1) (Xi t v (toReg B P N fE M).1) false (toReg B P N fE M).1))
  (hx:((Xh B P N (toReg B P N fE M).1).map (λq=>(q.2.2.1,q.2.2.2)),(toReg B P N fE M).2.map Prod.fst)=
   (some (ez B (Xi t v (toReg B P N fE M).1),v.er B.E),(toReg B P N fE M).2.map Prod.snd):=by kernel_rfl):RT B P N ρ Q M:=by
 simp only[Prod.mk.injEq]at hx
 obtain⟨h1,h2⟩:=hx
 refine⟨kl (dQ h2) ?_⟩
 have k2:=k2.v
 have k1:=λh=>(k1 h).v
 revert h1 k1 k2
 show _->_->_->ki B P N ρ Q (toReg B P N fE M).1
 generalize(toReg B P N fE M).1=g
 intro h1 k2 k1
 obtain⟨o,kk,bI,s⟩:=g
 unfold Xh at h1 k1 k2
 cases o<;>simp only[QP]at h1<;>first|(cases h1;done)|skip
 rename_i c
 simp only at k1 k2
 generalize hr:BD P N c (ez B bI) (df B s)=q at h1 k1 k2
 cases q with
 |none=>cases h1
 |some q=>
  obtain⟨y,d,E1,x⟩:=q
  simp only[gl,Option.some.injEq,Prod.mk.injEq]at h1
  obtain⟨h1,h3⟩:=h1
  refine Rz y d E1 x hr λb hb=>?_
  have hE: ∀b,fp d (.bool b) E1=ez B (iR d (.a (.bool b)) (Xi t v ⟨.run c,kk,bI,s⟩)):=λb=>by rw[ic,h1];rfl
  rw[hE]
  cases b with
  |true=>exact k1 (h3 ▸ hb rfl)
  |false=>exact k2
end
end Go.Am
