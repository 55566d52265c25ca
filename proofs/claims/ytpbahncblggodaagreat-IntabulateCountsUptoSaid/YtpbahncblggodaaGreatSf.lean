/- slices.SortFunc at lists of structs of ints: from the shelf's contract. -/
import Derived.Test.YtpbahncblggodaaGreatSe
import Derived.Shelf.SlSortCmp.NoneTotal
set_option linter.all false
namespace Go.Am
open Go.RowKit Go.Sort
inductive Cl where
 |i (n:Int)
 |b (x:Bool)
instance:Inhabited Cl:=⟨.i 0⟩
def Cl.av:Cl->AV
 |.i n=>AV.i n
 |.b x=>.bool x
def Cl.val:Cl->Value
 |.i n=>.int .i64 n
 |.b x=>.bool x
theorem Cl.V{G:cg}: ∀c:Cl,V G c.av c.val
 |.i _=>.int _ _
 |.b _=>.bool _
theorem Cl.eq{G:cg}{c:Cl}{v:Value}(h:Go.Am.V G c.av v):v=c.val:=by
 cases c<;>cases h<;>rfl
theorem Cl.sc(c:Cl):c.av.cX=true:=by cases c<;>rfl
section
variable {α:Type} [Inhabited α]
def encI(c:α->List Cl)(x:α):List Value:=(c x).map Cl.val
theorem vO{c:α->List Cl}{k:Nat}(hk: ∀x,(c x).length=k)(l:List α):(l.flatMap c).length=l.length*k:=by
 induction l with
 |nil=>simp
 |cons x l ih=>
  rw[FQ,jW,hk,ih,oG,uV]
  omega
theorem BQ{c:α->List Cl}{k:Nat}(h0:0<k)(hk: ∀x,(c x).length=k): ∀(l:List α)(t:Nat),t<l.length*k->(l.flatMap c)[t]? =(l[t / k]?).bind λx=>(c x)[t%k]?
 | [],t,h=>by simp at h
 |x::l,t,h=>by
  rw[FQ]
  by_cases ht:t<k
  ·rw[np (by rw[hk];exact ht),Nat.div_eq_of_lt ht,Nat.mod_eq_of_lt ht]
   rfl
  ·obtain⟨u,rfl⟩: ∃u,t=u+k:=⟨t-k,by omega⟩
   have hu:u<l.length*k:=by
    rw[oG,uV]at h
    omega
   rw[pG (by rw[hk];omega),hk,XI,BQ h0 hk l u hu,Nat.add_div_right u h0,Nat.add_mod_right]
   rfl
theorem zK{c:α->List Cl}{k:Nat}(h0:0<k)(hk: ∀x,(c x).length=k)(l:List α):flatK (encI c) k l.toArray=((l.flatMap c).map Cl.val).toArray:=by
 have hl:(flatK (encI c) k l.toArray).size=l.length*k:=by simp
 refine ext_get! (by simp[vO hk]) λt ht=>?_
 have w9:t<l.length*k:=by rw[hl]at ht;exact ht
 have h1:t / k<l.length:=Nat.div_lt_of_lt_mul (by rw[RI];exact w9)
 have h2:t%k<k:=Nat.mod_lt _ h0
 rw[get_flatK _ _ _ t (by simpa using w9)]
 have h3:l.toArray[t / k]! =l[t / k]:=by rw[FC _ _ (by simpa using h1)];simp
 have h4:=BQ h0 hk l t w9
 rw[dH h1,cK]at h4
 have h5:t%k<(c l[t / k]).length:=by rw[hk];exact h2
 rw[dH h5]at h4
 rw[h3]
 have h6:t<((l.flatMap c).map Cl.val).toArray.size:=by simp[vO hk];exact w9
 rw[FC _ t h6]
 obtain⟨h7,h8⟩:=fP.1 h4
 unfold encI
 rw[FC _ _ (by simpa using h5)]
 simp[h8]
theorem tq{c:α->List Cl}{E:α->AV}(hE: ∀x,E x=.agg ((c x).map Cl.av))(l:List α):dn (l.map E)=(l.flatMap c).map Cl.av:=by
 unfold dn
 induction l with
 |nil=>rfl
 |cons x l ih=>
  simp only[xb,FQ,ih,Dm]
  rw[hE]
  rfl
theorem Hm{c:α->List Cl}{k:Nat}{E:α->AV}(hE: ∀x,E x=.agg ((c x).map Cl.av))(hk: ∀x,(c x).length=k){G:cg}{s:St}{w:World}(hs:eL G s w){id:Nat}{l:List α}{r:uW}
  (hg:bH s.heap id=some (.cells k (l.map E))) (ho:G.own id=some r):
  ∃cs e,w.heap[r.block]? =some (.cells cs e (0,0))/\cs.size=r.size/\r.cB=k/\r.bR+l.length*k<=r.size/\ ∀j x,(l.flatMap c)[j]? =some x->cs[r.bR+j]? =some x.val:=by
 obtain⟨o,h1,h2⟩:=hs.at hg ho
 generalize hb:gD.cells k (l.map E)=b at h2
 cases h2 with
 |cells cB elems cs e eC ee h0 iM jz eZ hV=>
  injection hb with vf xf
  subst vf;subst xf
  refine⟨cs,e,h1,eC,ee,by simpa using eZ,λj x hj=>?_⟩
  obtain⟨v,h3,h4⟩:=hV j x.av (by rw[tq hE,tx,hj];rfl)
  rw[Cl.eq h4]at h3
  exact h3
 |loop=>cases hb
 |gr=>cases hb
theorem AF{c:α->List Cl}{k:Nat}{E:α->AV}(hE: ∀x,E x=.agg ((c x).map Cl.av))(h0:0<k)(hk: ∀x,(c x).length=k){G:cg}{r:uW}{cs:Array Value}{e:TypeId}{l:List α}(eC:cs.size=r.size)(ee:r.cB=k)
  (eZ:r.bR+l.length*k<=r.size) (hV: ∀j x,(l.flatMap c)[j]? =some x->cs[r.bR+j]? =some x.val):
  Holds G r (.cells k (l.map E)) (.cells cs e (0,0)):=
 .cells k (l.map E) cs e eC ee h0
  (λx hx=>by
   obtain⟨y,_,rfl⟩:=jJ.1 hx
   rw[hE]
   show((c y).map Cl.av).length=k
   rw[mB,hk])
  (λx hx=>by
   rw[tq hE]at hx
   obtain⟨y,_,rfl⟩:=jJ.1 hx
   exact y.sc) (by simpa using eZ)
  (λj x hj=>by
   rw[tq hE,tx]at hj
   obtain⟨y,h1,rfl⟩:=Hy.1 hj
   exact⟨_,hV j y h1,y.V⟩)
theorem N7{w:World}{b off:Nat}{l:List Cl}(h:Go.Sort.Holds Cl.val w b off l.toArray):Go.Sort.Holds id w b off (l.map Cl.val).toArray:=by
 intro j hj
 have YP:j<l.length:=by simpa using hj
 have h1:=h j (by simpa using YP)
 have e1:(l.map Cl.val).toArray[j]! =(l[j]).val:=by rw[FC _ j hj];simp
 have e2:l.toArray[j]! =l[j]:=by rw[FC _ j (by simpa using YP)];simp
 rw[e2]at h1
 rw[e1]
 exact h1
theorem T5{off:Nat}{cs:Array Value}{d:List Cl}(eZ:off+d.length<=cs.size): ∀k x,d[k]? =some x->(Go.Sort.putCells id off (d.map Cl.val).toArray cs)[off+k]? =some x.val:=by
 intro k x hk
 have UO:=(fP.1 hk).1
 unfold Go.Sort.putCells
 rw[Array.getElem?_mapIdx,Ky (by omega),gy,dD ⟨by omega,by simp;omega⟩]
 have:off+k-off=k:=by omega
 rw[this,FC _ k (by simpa using UO)]
 obtain⟨h1,h2⟩:=fP.1 hk
 simp[h2]
end
theorem Df{G G':cg}{s:St}{w w':World}(h:Ext G St.nil w G' s w'): ∃q os,w'=grow (w.drewN q) os:=by
 refine⟨w'.drawn-w.drawn,w'.heap.extract w.heap.size w'.heap.size,?_⟩
 have h1:w'.heap=w.heap++w'.heap.extract w.heap.size w'.heap.size:=by
  apply Array.ext_getElem?
  intro b
  by_cases hb:b<w.heap.size
  ·rw[Xw hb]
   exact h.keep b hb λ⟨id,blk,r,hg,_⟩=>by simp[St.nil,cV,cM]at hg
  ·rw[Array.getElem?_append_right (by omega),Array.getElem?_extract]
   have:=h.size
   split
   ·congr 1;omega
   ·rename_i hn
    exact YW (by omega)
 have h2:=h.drawn
 have h3:=h.os
 have h4:=h.tape
 have h5:=h.output
 cases w with
 |mk a1 a2 a3 a4 a5=>
  cases w' with
  |mk b1 b2 b3 b4 b5=>
   simp only[]at h1 h2 h3 h4 h5
   unfold grow World.drewN
   simp only[World.mk.injEq]
   exact⟨h1,h4,by omega,h3,h5⟩
theorem N8(w:World):eL ⟨λ_ _=>none,λ_=>none⟩ St.nil w:=
 ⟨λ_ _ _ h=>(by cases h),λid b hg=>by simp[St.nil,cV,cM]at hg,λid _ b _ _ _ hg=>by simp[St.nil,cV,cM]at hg,λid b _ _ hg=>by simp[St.nil,cV,cM]at hg,λ_ _=>rfl,λid b hg=>by simp[St.nil,cV,cM]at hg⟩
section
variable {α:Type} [Inhabited α]
theorem N9{G:cg}(l:List Cl):V G (.agg (l.map Cl.av)) (.agg (l.map Cl.val).toArray):=
 .agg _ _ (by simp) λi x y hx hy=>by
  rw[tx]at hx
  obtain⟨a,h1,rfl⟩:=Hy.1 hx
  simp[h1]at hy
  subst hy
  exact a.V
noncomputable def zL{α:Type}(fg:α->α->Option Int)(l:List α):Option (List α):=
 open Classical in
 if(∀x y,fg x y≠none)/\SWO (Go.Proofs.ltOf λx y=>(fg x y).getD 0)/\(∀x y,Go.Proofs.ltOf (λx y=>(fg x y).getD 0) x y=false->Go.Proofs.ltOf (λx y=>(fg x y).getD 0) y x=false->x=y)/\l.length<=4194304
 then some (l.mergeSort λx y=>!(Go.Proofs.ltOf (λx y=>(fg x y).getD 0) y x))else none
theorem Hn{α:Type}{fg:α->α->Option Int}{l r:List α}(h:zL fg l=some r):r.length=l.length:=by
 unfold zL at h
 split at h
 ·cases h;exact List.length_mergeSort l
 ·cases h
theorem zM{P:Program}{g:FuncId}{c:α->List Cl}{E:α->AV}(hE: ∀x,E x=.agg ((c x).map Cl.av)){x y:α}{r:Int}(h:nR P g [E x,E y] (.i r))(w:World):
  Calls P g #[.agg (encI c x).toArray,.agg (encI c y).toArray] w λe w'=>e=.returned (.int .i64 r)/\ ∃q os,w'=grow (w.drewN q) os:=by
 refine(h St.nil _ w _ (N8 w) ⟨rfl,λi p q hp hq=>?_⟩).mono ?_
 ·rcases i with _|_|i
  ·simp at hp hq;subst hp;subst hq;rw[hE];exact N9 _
  ·simp at hp hq;subst hp;subst hq;rw[hE];exact N9 _
  ·simp at hp
 ·rintro e w' ⟨v,G',y',s',rfl,hV,hS,hX,rfl,rfl⟩
  cases hV
  exact⟨rfl,Df hX⟩
end
theorem Dg{α:Type}{P:Program}{ρ:Go.Shelf.Ren}(L:Go.Proofs.SlLaysF0.n6 P ρ){k:Nat}(h0:0<k)(aE: ∀w,(isAgg (ρ.t 24)).run P w=.ok true w)(zE: ∀w,(Go.sizeOf (ρ.t 24)).run P w=.ok k w)
  {E : α → AV} (c : α → List Cl) (hE : ∀ x, E x = .agg ((c x).map Cl.av)) (hk : ∀ x, (c x).length = k) {g : FuncId} {gf : Func} {gc : Code} (hgf : P.funcs[g]? = some gf) (hgn : (gf.name == "runtime.NumGoroutine") = false) (R5 : gf.body = some gc)
  {fg:α->α->Option Int} (hg: ∀x y r,fg x y=some r->nR P g [E x,E y] (.i r)) (l r:List α) (h:zL fg l=some r):
  dQ P (ρ.f 6) [.ms 0 0 l.length,.fn g []] ⟨[(0,.cells k (l.map E))],1⟩ λy t=>y=.ec []/\t=⟨[(0,.cells k (r.map E))],1⟩:=by
 have dA:=Hn h
 unfold zL at h
 split at h
 case isFalse=>cases h
 rename_i hc
 obtain⟨aaE,hO,hT,wP⟩:=hc
 cases h
 generalize hcf:(λx y=>(fg x y).getD 0)=cf at hO hT dA |-
 intro G w vs hs hv
 obtain⟨eC,Hu⟩:=hv
 rcases vs with⟨_|⟨v,_|⟨v2,_|⟨_,_⟩⟩⟩⟩<;>simp at eC
 have Je:=Hu 1 _ v2 rfl rfl
 cases Je with
 |fn _ _ cvs Gr hch=>
 have Zt:cvs= #[]:=RN (by simpa using Gr.symm)
 subst Zt
 by_cases hl:0<l.length
 ·haveI:Inhabited α:=⟨l[0]⟩
  obtain⟨rg,cap,ho,rfl,eE,jY⟩:=N6 hs (Hu 0 _ v rfl rfl) hl
  obtain⟨cs,e,a1,a2,a3,a4,a5⟩:=Hm hE hk hs (id:=0) (l:=l) rfl ho
  have gq:=hs.jn (id:=0) rfl ho
  have hH:HoldsK (encI c) k w rg.block rg.bR l.toArray:=by
   unfold HoldsK
   rw[zK h0 hk]
   exact N7 (zJ a1 a5)
  refine(Go.Proofs.AnyQ.slices_SortFunc_total L k aE zE (encI c) (λx=>by simp[encI,hk]) (λx v hv=>by
   obtain⟨y,_,rfl⟩:=jJ.1 hv
   cases y<;>rfl) cf hO g #[] rg.block rg.bR cap l.toArray w (Go.Proofs.enters_of hgf hgn R5) (λm os dk hdk x y=>?_) hH gq (by simp;omega) hT).mono ?_
  ·obtain⟨rr,hrr⟩: ∃rr,fg x y=some rr:=Option.ne_none_iff_exists'.1 (aaE x y)
   have:=zM hE (hg x y rr hrr) (Go.Proofs.sortWorldK (encI c) k w rg.block rg.bR m dk os)
   have hq:cf x y=rr:=by rw[<-hcf];simp[hrr]
   rw[hq]
   simpa using this
  ·rintro e' w' ⟨rfl,n,os,rfl⟩
   have Jz:(l.mergeSort λx y=>!(Go.Proofs.ltOf cf) y x).length=l.length:=dA
   have Fa:=tp hs (id:=0) (b1:=.cells k ((l.mergeSort λx y=>!(Go.Proofs.ltOf cf) y x).map E)) rfl ho (by intro h;cases h) n
    (Go.Sort.putCells id rg.bR (((l.mergeSort λx y=>!(Go.Proofs.ltOf cf) y x).flatMap c).map Cl.val).toArray) os (λo RC=>by
     rw[a1]at RC;cases RC
     refine AF hE h0 hk (by simp[Go.Sort.putCells,a2]) a3 (by rw[Jz];exact a4) (T5 (by rw[vO hk,Jz,a2];exact a4)))
   have hw:tn w n rg.block (Go.Sort.putCells id rg.bR (((l.mergeSort λx y=>!(Go.Proofs.ltOf cf) y x).flatMap c).map Cl.val).toArray) os=Go.Proofs.sortWorldK (encI c) k w rg.block rg.bR n (l.mergeSort λx y=>!(Go.Proofs.ltOf cf) y x).toArray os:=by
    unfold Go.Proofs.sortWorldK putRowK
    rw[zK h0 hk]
    rfl
   show wM G _ w _ _ (Go.Proofs.sortWorldK (encI c) k w rg.block rg.bR n (l.mergeSort λx y=>!(Go.Proofs.ltOf cf) y x).toArray os)
   rw[<-hw]
   exact⟨.tuple #[],G,.ec [],_,rfl,.ec [] #[] rfl (λi x y hx=>by simp at hx),Fa.1,Fa.2,rfl,rfl⟩
 ·have An:l=[]:=List.length_eq_zero_iff.1 (by omega)
  subst An
  obtain⟨p,cap,rfl⟩: ∃p cap,v=.slice p 0 cap:=by
   have:=Hu 0 _ v rfl rfl
   generalize hx:AV.ms 0 0 ([]:List α).length=x at this
   cases this with
   |ms fG bL len cap r addr ho eE eZ gA=>injection hx with e1 e2 e3;subst e3;exact⟨_,_,rfl⟩
   |gC fG bL cap bR hc=>exact⟨_,_,rfl⟩
   |_=>cases hx
  refine(Go.Proofs.AnyF.slices_SortFunc_none L p cap _ w).mono ?_
  rintro e' w' ⟨rfl,rfl⟩
  refine⟨.tuple #[],G,.ec [],_,rfl,.ec [] #[] rfl (λi x y hx=>by simp at hx),hs,.refl _ _ _,rfl,?_⟩
  simp
def fJ{α:Type}(fg:α->α->Option Int)(x y:α):Bool:=decide ((fg x y).getD 0<0)
def Ho{α:Type}(fg:α->α->Option Int)(x:α):List α->List α
 | []=>[x]
 |y::r=>bif fJ fg y x then y::Ho fg x r else x::y::r
def qO{α:Type}(fg:α->α->Option Int):List α->List α
 | []=>[]
 |x::r=>Ho fg x (qO fg r)
def Qm{α:Type}[DecidableEq α](fg:α->α->Option Int)(l:List α):Bool:=
 Nat.ble l.length 4194304&&(l.all (λx=>l.all λy=>(fg x y).isSome)&&(l.all (λx=>!fJ fg x x)&&
  (l.all (λx=>l.all λy=>l.all λz=>(!(fJ fg x y&&fJ fg y z)||fJ fg x z)&&(!(!fJ fg x y&&!fJ fg y z)||!fJ fg x z))&&l.all λx=>l.all λy=>fJ fg x y||(fJ fg y x||decide (x=y)))))
def sA{α:Type}[DecidableEq α](fg:α->α->Option Int)(l:List α):Option (List α):=bif Qm fg l then some (qO fg l)else none
structure Qn {α:Type} (fg:α->α->Option Int) (l:List α):Prop where
 len:l.length<=4194304
 tot: ∀x∈l,∀y∈l,(fg x y).isSome=true
 irr: ∀x∈l,fJ fg x x=false
 tra: ∀x∈l,∀y∈l,∀z∈l,fJ fg x y=true->fJ fg y z=true->fJ fg x z=true
 ntr: ∀x∈l,∀y∈l,∀z∈l,fJ fg x y=false->fJ fg y z=false->fJ fg x z=false
 ant: ∀x∈l,∀y∈l,fJ fg x y=false->fJ fg y x=false->x=y
theorem Fb{α:Type}[DecidableEq α]{fg:α->α->Option Int}{l:List α}:Qm fg l=true↔Qn fg l:=by
 unfold Qm
 simp only[fi,pT,Ji,p9,tz,xL]
 constructor
 ·rintro⟨h1,h2,h3,h4,h5⟩
  refine⟨h1,h2,h3,λx hx y hy z hz a b=>?_,λx hx y hy z hz a b=>?_,λx hx y hy a b=>?_⟩
  ·have:=(h4 x hx y hy z hz).1
   simpa[a,b]using this
  ·have:=(h4 x hx y hy z hz).2
   simpa[a,b]using this
  ·have:=h5 x hx y hy
   simpa[a,b]using this
 ·rintro⟨h1,h2,h3,h4,h5,h6⟩
  refine⟨h1,h2,h3,λx hx y hy z hz=>?_,λx hx y hy=>?_⟩
  ·constructor
   ·cases a:fJ fg x y<;>cases b:fJ fg y z<;>simp
    exact h4 x hx y hy z hz a b
   ·cases a:fJ fg x y<;>cases b:fJ fg y z<;>simp
    exact h5 x hx y hy z hz a b
  ·cases a:fJ fg x y<;>cases b:fJ fg y x<;>simp
   exact h6 x hx y hy a b
theorem vP{α:Type}{fg:α->α->Option Int}{x:α}: ∀{l:List α},(Ho fg x l).Perm (x::l)
 | []=>.refl _
 |y::r=>by
  unfold Ho
  cases fJ fg y x
  ·exact .refl _
  ·exact(vP.cons y).trans (.swap x y r)
theorem lP{α:Type}{fg:α->α->Option Int}: ∀{l:List α},(qO fg l).Perm l
 | []=>.refl _
 |x::r=>vP.trans (lP.cons x)
theorem I8{α:Type}{fg:α->α->Option Int}{m:List α}(h:Qn fg m){x:α}(hx:x∈m): ∀{l:List α},(∀y∈l,y∈m)->l.Pairwise (λa b=>fJ fg b a=false)->(Ho fg x l).Pairwise λa b=>fJ fg b a=false
 | [],_,_=>by simp[Ho]
 |y::r,hm,hp=>by
  rw[Dr]at hp
  have hy:=hm y (by simp)
  unfold Ho
  cases hq:fJ fg y x
  ·simp only[dj]
   rw[Dr]
   refine⟨λz hz=>?_,Dr.2 hp⟩
   simp at hz
   rcases hz with rfl|hz
   ·exact hq
   ·exact h.ntr z (hm z (by simp[hz])) y hy x hx (hp.1 z hz) hq
  ·simp only[cS]
   rw[Dr]
   refine⟨λz hz=>?_,I8 h hx (λw hw=>hm w (by simp[hw])) hp.2⟩
   have:=vP.mem_iff.1 hz
   simp at this
   rcases this with rfl|hz
   ·cases hw:fJ fg z y
    ·rfl
    ·have:=h.tra y hy z hx y hy hq hw
     rw[h.irr y hy]at this;cases this
   ·exact hp.1 z hz
theorem vQ{α:Type}{fg:α->α->Option Int}{m:List α}(h:Qn fg m): ∀{l:List α},(∀y∈l,y∈m)->(qO fg l).Pairwise λa b=>fJ fg b a=false
 | [],_=>by simp[qO]
 |x::r,hm=>I8 h (hm x (by simp)) (λy hy=>hm y (by simp[lP.mem_iff.1 hy])) (vQ h λy hy=>hm y (by simp[hy]))
theorem Nw{α:Type}[DecidableEq α]{fg:α->α->Option Int}{l:List α}(h:Qn fg l): ∃r,sA fg l=some r/\r.Perm l/\r.Pairwise λa b=>fJ fg b a=false:=
 ⟨qO fg l,by unfold sA;rw[Fb.2 h];rfl,lP,vQ h λ_ h=>h⟩
theorem nl{α:Type}[DecidableEq α]{P:Program}{ρ:Go.Shelf.Ren}(L:Go.Proofs.SlLaysF0.n6 P ρ){k:Nat}(h0:0<k)(aE: ∀w,(isAgg (ρ.t 24)).run P w=.ok true w)(zE: ∀w,(Go.sizeOf (ρ.t 24)).run P w=.ok k w)
  {E : α → AV} (c : α → List Cl) (hE : ∀ x, E x = .agg ((c x).map Cl.av)) (hk : ∀ x, (c x).length = k) {g : FuncId} {gf : Func} {gc : Code} (hgf : P.funcs[g]? = some gf) (hgn : (gf.name == "runtime.NumGoroutine") = false) (R5 : gf.body = some gc)
  {fg:α->α->Option Int} (hg: ∀x y r,fg x y=some r->nR P g [E x,E y] (.i r)) (l r:List α) (h:sA fg l=some r):
  dQ P (ρ.f 6) [.ms 0 0 l.length,.fn g []] ⟨[(0,.cells k (l.map E))],1⟩ λy t=>y=.ec []/\t=⟨[(0,.cells k (r.map E))],1⟩:=by
 unfold sA at h
 cases hc:Qm fg l with
 |false=>rw[hc]at h;cases h
 |true=>
 rw[hc]at h
 cases h
 have hC:=Fb.1 hc
 have e1:l.attach.map (λx=>E x.1)=l.map E:=by
  have:=fA (List.map E) (List.attach_map_subtype_val l)
  rw[Jd]at this
  exact this
 let T6:=λx y:{x // x∈l}=>!(Go.Proofs.ltOf (λx y:{x // x∈l}=>(fg x.1 y.1).getD 0) y x)
 have eE: ∀x y:{x // x∈l},T6 x y=!(fJ fg y.1 x.1):=λ_ _=>rfl
 have Qo:(l.attach.mergeSort T6).Pairwise λx y=>T6 x y=true:=Y5 (λa b c h1 h2=>by
  rw[eE]at h1 h2 |-
  simp only[p9]at h1 h2 |-
  exact hC.ntr c.1 c.2 b.1 b.2 a.1 a.2 h2 h1) (λa b=>by
  rw[eE,eE]
  cases p:fJ fg a.1 b.1<;>cases q:fJ fg b.1 a.1<;>simp
  have:=hC.tra a.1 a.2 b.1 b.2 a.1 a.2 p q
  rw[hC.irr a.1 a.2]at this;cases this) l.attach
 have hv:(l.attach.mergeSort T6).map Subtype.val=qO fg l:=by
  refine List.Perm.eq_of_pairwise (le:=λa b=>fJ fg b a=false) (λa b ha hb h1 h2=>?_) ?_ (vQ hC λ_ h=>h) ?_
  ·obtain⟨x,_,rfl⟩:=jJ.1 ha
   exact hC.ant x.1 x.2 b (lP.mem_iff.1 hb) h2 h1
  ·rw[FB]
   exact Qo.imp λ{a b}h=>by rw[eE]at h;simpa using h
  ·refine((Y4 l.attach T6).map Subtype.val).trans ?_
   rw[List.attach_map_subtype_val]
   exact lP.symm
 have e2:(l.attach.mergeSort T6).map (λx=>E x.1)=(qO fg l).map E:=by
  rw[<-hv,Jd]
  rfl
 have h2:zL (λx y:{x // x∈l}=>fg x.1 y.1) l.attach=some (l.attach.mergeSort T6):=
  dD ⟨λx y e=>(by have h9:=hC.tot _ x.2 _ y.2;have e:fg x.1 y.1=none:=e;rw[e]at h9;cases h9),
   ⟨λx=>hC.irr _ x.2,λx y z=>hC.tra _ x.2 _ y.2 _ z.2,λx y z=>hC.ntr _ x.2 _ y.2 _ z.2⟩,λx y a b=>Subtype.ext (hC.ant _ x.2 _ y.2 a b),by rw[List.length_attach];exact hC.len⟩
 have h3:=Dg (E:=λx:{x // x∈l}=>E x.1) L h0 aE zE (λx:{x // x∈l}=>c x.1) (λx=>hE x.1) (λx=>hk x.1) hgf hgn R5 (fg:=λx y:{x // x∈l}=>fg x.1 y.1) (λx y r h=>hg x.1 y.1 r h) _ _ h2
 rw[e1,e2,List.length_attach]at h3
 exact h3
end Go.Am
