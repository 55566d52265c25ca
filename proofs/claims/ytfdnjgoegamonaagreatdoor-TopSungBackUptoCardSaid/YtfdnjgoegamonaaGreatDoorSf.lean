/- slices.SortFunc at lists of structs of ints: from the shelf's contract. -/
import Derived.Test.YtfdnjgoegamonaaGreatDoorSe
import Derived.Shelf.SlSortCmp.NoneTotal
set_option linter.all false
namespace Go.Am
open Go.RowKit Go.Sort
inductive Cl where
 |i (n:Int)
 |b (x:Bool)
instance:Inhabited Cl:=⟨.i 0⟩
def Cl.av:Cl->AV
 |.i n=>AV.i n
 |.b x=>.bool x
def Cl.val:Cl->Value
 |.i n=>.int .i64 n
 |.b x=>.bool x
theorem Cl.V{G:cx}: ∀c:Cl,V G c.av c.val
 |.i _=>.int _ _
 |.b _=>.bool _
theorem Cl.eq{G:cx}{c:Cl}{v:Value}(h:Go.Am.V G c.av v):v=c.val:=by
 cases c<;>cases h<;>rfl
theorem Cl.sc(c:Cl):c.av.dn=true:=by cases c<;>rfl
section
variable {α:Type} [Inhabited α]
def encI(c:α->List Cl)(x:α):List Value:=(c x).map Cl.val
theorem vR{c:α->List Cl}{k:Nat}(hk: ∀x,(c x).length=k)(l:List α):(l.flatMap c).length=l.length*k:=by
 induction l with
 |nil=>simp
 |cons x l ih=>
  rw[F6,lu,hk,ih,oC,vm];omega
theorem BU{c:α->List Cl}{k:Nat}(h0:0<k)(hk: ∀x,(c x).length=k): ∀(l:List α)(t:Nat),t<l.length*k->(l.flatMap c)[t]? =(l[t / k]?).bind λx=>(c x)[t%k]?
 | [],t,h=>by simp at h
 |x::l,t,h=>by
  rw[F6];by_cases ht:t<k
  ·rw[nD (by rw[hk];exact ht),Nat.div_eq_of_lt ht,Nat.mod_eq_of_lt ht];rfl
  ·obtain⟨u,rfl⟩: ∃u,t=u+k:=⟨t-k,by omega⟩;have hu:u<l.length*k:=by
    rw[oC,vm]at h;omega
   rw[qb (by rw[hk];omega),hk,Ys,BU h0 hk l u hu,Nat.add_div_right u h0,Nat.add_mod_right];rfl
theorem zN{c:α->List Cl}{k:Nat}(h0:0<k)(hk: ∀x,(c x).length=k)(l:List α):flatK (encI c) k l.toArray=((l.flatMap c).map Cl.val).toArray:=by
 have hl:(flatK (encI c) k l.toArray).size=l.length*k:=by simp
 refine ext_get! (by simp[vR hk]) λt ht=>?_;have AF:t<l.length*k:=by rw[hl]at ht;exact ht
 have h1:t / k<l.length:=Nat.div_lt_of_lt_mul (by rw[Ss];exact AF);have h2:t%k<k:=Nat.mod_lt _ h0;rw[get_flatK _ _ _ t (by simpa using AF)];have h3:l.toArray[t / k]! =l[t / k]:=by rw[Gb _ _ (by simpa using h1)];simp
 have h4:=BU h0 hk l t AF;rw[dR h1,dm]at h4;have h5:t%k<(c l[t / k]).length:=by rw[hk];exact h2
 rw[dR h5]at h4;rw[h3];have h6:t<((l.flatMap c).map Cl.val).toArray.size:=by simp[vR hk];exact AF
 rw[Gb _ t h6];obtain⟨h7,h8⟩:=fT.1 h4;unfold encI;rw[Gb _ _ (by simpa using h5)];simp[h8]
theorem tw{c:α->List Cl}{E:α->AV}(hE: ∀x,E x=.agg ((c x).map Cl.av))(l:List α):dB (l.map E)=(l.flatMap c).map Cl.av:=by
 unfold dB
 induction l with
 |nil=>rfl
 |cons x l ih=>
  simp only[wy,F6,ih,Cf];rw[hE];rfl
theorem HA{c:α->List Cl}{k:Nat}{E:α->AV}(hE: ∀x,E x=.agg ((c x).map Cl.av))(hk: ∀x,(c x).length=k){G:cx}{s:St}{w:World}(hs:eQ G s w){id:Nat}{l:List α}{r:ua}
  (hg:bJ s.heap id=some (.cells k (l.map E))) (ho:G.own id=some r):
  ∃cs e,w.heap[r.block]? =some (.cells cs e (0,0))/\cs.size=r.size/\r.cN=k/\r.cn+l.length*k<=r.size/\ ∀j x,(l.flatMap c)[j]? =some x->cs[r.cn+j]? =some x.val:=by
 obtain⟨o,h1,h2⟩:=hs.at hg ho;generalize hb:gU.cells k (l.map E)=b at h2;cases h2 with
 |cells cN elems cs e eG eE h0 ja jH fB hV=>
  injection hb with uj wE
  subst uj;subst wE;refine⟨cs,e,h1,eG,eE,by simpa using fB,λj x hj=>?_⟩;obtain⟨v,h3,h4⟩:=hV j x.av (by rw[tw hE,sW,hj];rfl);rw[Cl.eq h4]at h3;exact h3
 |loop=>cases hb
 |gK=>cases hb
theorem Bh{c:α->List Cl}{k:Nat}{E:α->AV}(hE: ∀x,E x=.agg ((c x).map Cl.av))(h0:0<k)(hk: ∀x,(c x).length=k){G:cx}{r:ua}{cs:Array Value}{e:TypeId}{l:List α}(eG:cs.size=r.size)(eE:r.cN=k)
  (fB:r.cn+l.length*k<=r.size) (hV: ∀j x,(l.flatMap c)[j]? =some x->cs[r.cn+j]? =some x.val):
  Holds G r (.cells k (l.map E)) (.cells cs e (0,0)):=
 .cells k (l.map E) cs e eG eE h0
  (λx hx=>by
   obtain⟨y,_,rfl⟩:=kl.1 hx;rw[hE];show((c y).map Cl.av).length=k;rw[nE,hk])
  (λx hx=>by
   rw[tw hE]at hx;obtain⟨y,_,rfl⟩:=kl.1 hx;exact y.sc) (by simpa using fB)
  (λj x hj=>by
   rw[tw hE,sW]at hj;obtain⟨y,h1,rfl⟩:=D5.1 hj;exact⟨_,hV j y h1,y.V⟩)
theorem NP{w:World}{b off:Nat}{l:List Cl}(h:Go.Sort.Holds Cl.val w b off l.toArray):Go.Sort.Holds id w b off (l.map Cl.val).toArray:=by
 intro j hj;have Y9:j<l.length:=by simpa using hj
 have h1:=h j (by simpa using Y9);have e1:(l.map Cl.val).toArray[j]! =(l[j]).val:=by rw[Gb _ j hj];simp
 have e2:l.toArray[j]! =l[j]:=by rw[Gb _ j (by simpa using Y9)];simp
 rw[e2]at h1;rw[e1];exact h1
theorem Ui{off:Nat}{cs:Array Value}{d:List Cl}(fB:off+d.length<=cs.size): ∀k x,d[k]? =some x->(Go.Sort.putCells id off (d.map Cl.val).toArray cs)[off+k]? =some x.val:=by
 intro k x hk;have Uh:=(fT.1 hk).1;unfold Go.Sort.putCells;rw[Array.getElem?_mapIdx,Lj (by omega),gX,dP ⟨by omega,by simp;omega⟩];have:off+k-off=k:=by omega
 rw[this,Gb _ k (by simpa using Uh)];obtain⟨h1,h2⟩:=fT.1 hk;simp[h2]
end
theorem Df{G G':cx}{s:St}{w w':World}(h:Ext G St.nil w G' s w'): ∃q os,w'=grow (w.drewN q) os:=by
 refine⟨w'.drawn-w.drawn,w'.heap.extract w.heap.size w'.heap.size,?_⟩;have h1:w'.heap=w.heap++w'.heap.extract w.heap.size w'.heap.size:=by
  apply Array.ext_getElem?;intro b;by_cases hb:b<w.heap.size
  ·rw[Yn hb];exact h.keep b hb λ⟨id,blk,r,hg,_⟩=>by simp[St.nil,di,cZ]at hg
  ·rw[Array.getElem?_append_right (by omega),Array.getElem?_extract];have:=h.size;split
   ·congr 1;omega
   ·rename_i hn;exact ZL (by omega)
 have h2:=h.drawn;have h3:=h.os;have h4:=h.tape;have h5:=h.output;cases w with
 |mk a1 a2 a3 a4 a5=>
  cases w' with
  |mk b1 b2 b3 b4 b5=>
   simp only[]at h1 h2 h3 h4 h5;unfold grow World.drewN;simp only[World.mk.injEq];exact⟨h1,h4,by omega,h3,h5⟩
theorem NQ{G:cx}{s:St}{w:World}(hs:eQ G s w){id:Nat}{b0:gU}{r:ua}(hg:bJ s.heap id=some b0)(ho:G.own id=some r)(n:Nat)(f:Array Value->Array Value)(os:Array Obj):
  eQ ⟨G.ir,λ_=>none⟩ St.nil (pV w n r.block f os):=
 ⟨⟨λb o v hi=>by
  have hb:=hs.pB hi;have eU:r.block≠b:=by
   rintro rfl;rw[hs.clear id b0 r o hg ho]at hi;cases hi
  have:=hs.ir b o v hi;unfold World.cell? at this |-
  rw[ma w n r.block f os hb,dY eU];exact this,hs.kS.2⟩,λid b hg=>by simp[St.nil,di,cZ]at hg,λid _ b _ _ _ hg=>by simp[St.nil,di,cZ]at hg,λid b _ _ hg=>by simp[St.nil,di,cZ]at hg,λ_ _=>rfl,λid b hg=>by simp[St.nil,di,cZ]at hg⟩
section
variable {α:Type} [Inhabited α]
theorem NR{G:cx}(l:List Cl):V G (.agg (l.map Cl.av)) (.agg (l.map Cl.val).toArray):=
 .agg _ _ (by simp) λi x y hx hy=>by
  rw[sW]at hx;obtain⟨a,h1,rfl⟩:=D5.1 hx;simp[h1]at hy;subst hy;exact a.V
noncomputable def zO{α:Type}(fg:α->α->Option Int)(l:List α):Option (List α):=
 open Classical in
 if(∀x y,fg x y≠none)/\SWO (Go.Proofs.ltOf λx y=>(fg x y).getD 0)/\(∀x y,Go.Proofs.ltOf (λx y=>(fg x y).getD 0) x y=false->Go.Proofs.ltOf (λx y=>(fg x y).getD 0) y x=false->x=y)/\l.length<=4194304
 then some (l.mergeSort λx y=>!(Go.Proofs.ltOf (λx y=>(fg x y).getD 0) y x))else none
theorem HB{α:Type}{fg:α->α->Option Int}{l r:List α}(h:zO fg l=some r):r.length=l.length:=by
 unfold zO at h;split at h
 ·cases h;exact List.length_mergeSort l
 ·cases h
theorem zQ{P:Program}{g:FuncId}{c:α->List Cl}{E:α->AV}(hE: ∀x,E x=.agg ((c x).map Cl.av)){x y:α}{r:Int}(h:kU P g [E x,E y] (.i r)){G:cx}{w:World}(hw:eQ ⟨G.ir,λ_=>none⟩ St.nil w):
  Calls P g #[.agg (encI c x).toArray,.agg (encI c y).toArray] w λe w'=>e=.returned (.int .i64 r)/\ ∃q os,w'=grow (w.drewN q) os:=by
 refine(h St.nil _ w _ hw ⟨rfl,λi p q hp hq=>?_⟩).mono ?_
 ·rcases i with _|_|i
  ·simp at hp hq;subst hp;subst hq;rw[hE];exact NR _
  ·simp at hp hq;subst hp;subst hq;rw[hE];exact NR _
  ·simp at hp
 ·rintro e w' ⟨v,G',y',s',rfl,hV,hS,hX,rfl,rfl⟩;cases hV;exact⟨rfl,Df hX⟩
end
theorem Dg{α:Type}{P:Program}{ρ:Go.Shelf.Ren}(L:Go.Proofs.SlLaysF0.n6 P ρ){k:Nat}(h0:0<k)(aE: ∀w,(isAgg (ρ.t 24)).run P w=.ok true w)(zE: ∀w,(Go.sizeOf (ρ.t 24)).run P w=.ok k w)
  {E : α → AV} (c : α → List Cl) (hE : ∀ x, E x = .agg ((c x).map Cl.av)) (hk : ∀ x, (c x).length = k) {g : FuncId} {gf : Func} {gc : Code} (hgf : P.funcs[g]? = some gf) (hgn : (gf.name == "runtime.NumGoroutine") = false) (SQ : gf.body = some gc)
  {fg:α->α->Option Int} (hg: ∀x y r,fg x y=some r->kU P g [E x,E y] (.i r)) (l r:List α) (h:zO fg l=some r):
  dQ P (ρ.f 6) [.ms 0 0 l.length,.fn g []] ⟨[(0,.cells k (l.map E))],1⟩ λy t=>y=.eC []/\t=⟨[(0,.cells k (r.map E))],1⟩:=by
 have dJ:=HB h;unfold zO at h;split at h
 case isFalse=>cases h
 rename_i hc;obtain⟨aaK,hO,hT,xh⟩:=hc;cases h;generalize hcf:(λx y=>(fg x y).getD 0)=cf at hO hT dJ |-
 intro G w vs hs hv;obtain⟨eG,vP⟩:=hv;rcases vs with⟨_|⟨v,_|⟨v2,_|⟨_,_⟩⟩⟩⟩<;>simp at eG
 have Ka:=vP 1 _ v2 rfl rfl;cases Ka with
 |fn _ _ cvs Ed hch=>
 have hcv:cvs= #[]:=Sx (by simpa using Ed.symm);subst hcv;by_cases hl:0<l.length
 ·haveI:Inhabited α:=⟨l[0]⟩
  obtain⟨rg,cap,ho,rfl,eP,ko⟩:=NO hs (vP 0 _ v rfl rfl) hl;obtain⟨cs,e,a1,a2,a3,a4,a5⟩:=HA hE hk hs (id:=0) (l:=l) rfl ho;have gl:=hs.jy (id:=0) rfl ho;have hH:HoldsK (encI c) k w rg.block rg.cn l.toArray:=by
   unfold HoldsK;rw[zN h0 hk];exact NP (zL a1 a5)
  refine(Go.Proofs.AnyQ.slices_SortFunc_total L k aE zE (encI c) (λx=>by simp[encI,hk]) (λx v hv=>by
   obtain⟨y,_,rfl⟩:=kl.1 hv;cases y<;>rfl) cf hO g #[] rg.block rg.cn cap l.toArray w (Go.Proofs.enters_of hgf hgn SQ) (λm os dk hdk x y=>?_) hH gl (by simp;omega) hT).mono ?_
  ·obtain⟨rr,hrr⟩: ∃rr,fg x y=some rr:=Option.ne_none_iff_exists'.1 (aaK x y);have SZ:=NQ hs (id:=0) rfl ho m (Go.Sort.putCells id rg.cn (flatK (encI c) k dk)) os;have ew:Go.Proofs.sortWorldK (encI c) k w rg.block rg.cn m dk os=pV w m rg.block (Go.Sort.putCells id rg.cn (flatK (encI c) k dk)) os:=by unfold Go.Proofs.sortWorldK putRowK;rfl
   rw[<-ew]at SZ;have:=zQ hE (hg x y rr hrr) SZ;have hq:cf x y=rr:=by rw[<-hcf];simp[hrr]
   rw[hq];simpa using this
  ·rintro e' w' ⟨rfl,n,os,rfl⟩;have J6:(l.mergeSort λx y=>!(Go.Proofs.ltOf cf) y x).length=l.length:=dJ;have Fe:=tv hs (id:=0) (b1:=.cells k ((l.mergeSort λx y=>!(Go.Proofs.ltOf cf) y x).map E)) rfl ho (by intro h;cases h) n
    (Go.Sort.putCells id rg.cn (((l.mergeSort λx y=>!(Go.Proofs.ltOf cf) y x).flatMap c).map Cl.val).toArray) os (λo R7=>by
     rw[a1]at R7;cases R7;refine Bh hE h0 hk (by simp[Go.Sort.putCells,a2]) a3 (by rw[J6];exact a4) (Ui (by rw[vR hk,J6,a2];exact a4)))
   have hw:pV w n rg.block (Go.Sort.putCells id rg.cn (((l.mergeSort λx y=>!(Go.Proofs.ltOf cf) y x).flatMap c).map Cl.val).toArray) os=Go.Proofs.sortWorldK (encI c) k w rg.block rg.cn n (l.mergeSort λx y=>!(Go.Proofs.ltOf cf) y x).toArray os:=by
    unfold Go.Proofs.sortWorldK putRowK;rw[zN h0 hk];rfl
   show xe G _ w _ _ (Go.Proofs.sortWorldK (encI c) k w rg.block rg.cn n (l.mergeSort λx y=>!(Go.Proofs.ltOf cf) y x).toArray os);rw[<-hw];exact⟨.tuple #[],G,.eC [],_,rfl,.eC [] #[] rfl (λi x y hx=>by simp at hx),Fe.1,Fe.2,rfl,rfl⟩
 ·have PS:l=[]:=ZE.1 (by omega);subst PS;obtain⟨p,cap,rfl⟩: ∃p cap,v=.slice p 0 cap:=by
   have:=vP 0 _ v rfl rfl;generalize hx:AV.ms 0 0 ([]:List α).length=x at this;cases this with
   |ms fL b9 len cap r addr ho eP fB gY=>injection hx with e1 e2 e3;subst e3;exact⟨_,_,rfl⟩
   |ia fL b9 cap cn hc=>exact⟨_,_,rfl⟩
   |_=>cases hx
  refine(Go.Proofs.AnyF.slices_SortFunc_none L p cap _ w).mono ?_;rintro e' w' ⟨rfl,rfl⟩;refine⟨.tuple #[],G,.eC [],_,rfl,.eC [] #[] rfl (λi x y hx=>by simp at hx),hs,.refl _ _ _,rfl,?_⟩;simp
def fW{α:Type}(fg:α->α->Option Int)(x y:α):Bool:=decide ((fg x y).getD 0<0)
def HC{α:Type}(fg:α->α->Option Int)(x:α):List α->List α
 | []=>[x]
 |y::r=>bif fW fg y x then y::HC fg x r else x::y::r
def qY{α:Type}(fg:α->α->Option Int):List α->List α
 | []=>[]
 |x::r=>HC fg x (qY fg r)
def QJ{α:Type}[DecidableEq α](fg:α->α->Option Int)(l:List α):Bool:=
 Nat.ble l.length 4194304&&(l.all (λx=>l.all λy=>(fg x y).isSome)&&(l.all (λx=>!fW fg x x)&&
  (l.all (λx=>l.all λy=>l.all λz=>(!(fW fg x y&&fW fg y z)||fW fg x z)&&(!(!fW fg x y&&!fW fg y z)||!fW fg x z))&&l.all λx=>l.all λy=>fW fg x y||(fW fg y x||decide (x=y)))))
def sR{α:Type}[DecidableEq α](fg:α->α->Option Int)(l:List α):Option (List α):=bif QJ fg l then some (qY fg l)else none
structure QL {α:Type} (fg:α->α->Option Int) (l:List α):Prop where
 len:l.length<=4194304
 tot: ∀x∈l,∀y∈l,(fg x y).isSome=true
 irr: ∀x∈l,fW fg x x=false
 tra: ∀x∈l,∀y∈l,∀z∈l,fW fg x y=true->fW fg y z=true->fW fg x z=true
 ntr: ∀x∈l,∀y∈l,∀z∈l,fW fg x y=false->fW fg y z=false->fW fg x z=false
 ant: ∀x∈l,∀y∈l,fW fg x y=false->fW fg y x=false->x=y
theorem Fg{α:Type}[DecidableEq α]{fg:α->α->Option Int}{l:List α}:QJ fg l=true↔QL fg l:=by
 unfold QJ;simp only[fE,pA,JP,qn,tY,AE];constructor
 ·rintro⟨h1,h2,h3,h4,h5⟩;refine⟨h1,h2,h3,λx hx y hy z hz a b=>?_,λx hx y hy z hz a b=>?_,λx hx y hy a b=>?_⟩
  ·have:=(h4 x hx y hy z hz).1;simpa[a,b]using this
  ·have:=(h4 x hx y hy z hz).2;simpa[a,b]using this
  ·have:=h5 x hx y hy;simpa[a,b]using this
 ·rintro⟨h1,h2,h3,h4,h5,h6⟩;refine⟨h1,h2,h3,λx hx y hy z hz=>?_,λx hx y hy=>?_⟩
  ·constructor
   ·cases a:fW fg x y<;>cases b:fW fg y z<;>simp
    exact h4 x hx y hy z hz a b
   ·cases a:fW fg x y<;>cases b:fW fg y z<;>simp
    exact h5 x hx y hy z hz a b
  ·cases a:fW fg x y<;>cases b:fW fg y x<;>simp
   exact h6 x hx y hy a b
theorem vS{α:Type}{fg:α->α->Option Int}{x:α}: ∀{l:List α},(HC fg x l).Perm (x::l)
 | []=>.refl _
 |y::r=>by
  unfold HC;cases fW fg y x
  ·exact .refl _
  ·exact(vS.cons y).trans (.swap x y r)
theorem mg{α:Type}{fg:α->α->Option Int}: ∀{l:List α},(qY fg l).Perm l
 | []=>.refl _
 |x::r=>vS.trans (mg.cons x)
theorem Jh{α:Type}{fg:α->α->Option Int}{m:List α}(h:QL fg m){x:α}(hx:x∈m): ∀{l:List α},(∀y∈l,y∈m)->l.Pairwise (λa b=>fW fg b a=false)->(HC fg x l).Pairwise λa b=>fW fg b a=false
 | [],_,_=>by simp[HC]
 |y::r,hm,hp=>by
  rw[Gc]at hp;have hy:=hm y (by simp);unfold HC;cases hq:fW fg y x
  ·simp only[dD];rw[Gc];refine⟨λz hz=>?_,Gc.2 hp⟩;simp at hz;rcases hz with rfl|hz
   ·exact hq
   ·exact h.ntr z (hm z (by simp[hz])) y hy x hx (hp.1 z hz) hq
  ·simp only[dt];rw[Gc];refine⟨λz hz=>?_,Jh h hx (λw hw=>hm w (by simp[hw])) hp.2⟩;have:=vS.mem_iff.1 hz;simp at this;rcases this with rfl|hz
   ·cases hw:fW fg z y
    ·rfl
    ·have:=h.tra y hy z hx y hy hq hw;rw[h.irr y hy]at this;cases this
   ·exact hp.1 z hz
theorem vT{α:Type}{fg:α->α->Option Int}{m:List α}(h:QL fg m): ∀{l:List α},(∀y∈l,y∈m)->(qY fg l).Pairwise λa b=>fW fg b a=false
 | [],_=>by simp[qY]
 |x::r,hm=>Jh h (hm x (by simp)) (λy hy=>hm y (by simp[mg.mem_iff.1 hy])) (vT h λy hy=>hm y (by simp[hy]))
theorem NS{α:Type}[DecidableEq α]{fg:α->α->Option Int}{l:List α}(h:QL fg l): ∃r,sR fg l=some r/\r.Perm l/\r.Pairwise λa b=>fW fg b a=false:=
 ⟨qY fg l,by unfold sR;rw[Fg.2 h];rfl,mg,vT h λ_ h=>h⟩
theorem nP{α:Type}[DecidableEq α]{P:Program}{ρ:Go.Shelf.Ren}(L:Go.Proofs.SlLaysF0.n6 P ρ){k:Nat}(h0:0<k)(aE: ∀w,(isAgg (ρ.t 24)).run P w=.ok true w)(zE: ∀w,(Go.sizeOf (ρ.t 24)).run P w=.ok k w)
  {E : α → AV} (c : α → List Cl) (hE : ∀ x, E x = .agg ((c x).map Cl.av)) (hk : ∀ x, (c x).length = k) {g : FuncId} {gf : Func} {gc : Code} (hgf : P.funcs[g]? = some gf) (hgn : (gf.name == "runtime.NumGoroutine") = false) (SQ : gf.body = some gc)
  {fg:α->α->Option Int} (hg: ∀x y r,fg x y=some r->kU P g [E x,E y] (.i r)) (l r:List α) (h:sR fg l=some r):
  dQ P (ρ.f 6) [.ms 0 0 l.length,.fn g []] ⟨[(0,.cells k (l.map E))],1⟩ λy t=>y=.eC []/\t=⟨[(0,.cells k (r.map E))],1⟩:=by
 unfold sR at h;cases hc:QJ fg l with
 |false=>rw[hc]at h;cases h
 |true=>
 rw[hc]at h;cases h;have hC:=Fg.1 hc;have e1:l.attach.map (λx=>E x.1)=l.map E:=by
  have:=fC (List.map E) (List.attach_map_subtype_val l);rw[JR]at this;exact this
 let Uj:=λx y:{x // x∈l}=>!(Go.Proofs.ltOf (λx y:{x // x∈l}=>(fg x.1 y.1).getD 0) y x);have eP: ∀x y:{x // x∈l},Uj x y=!(fW fg y.1 x.1):=λ_ _=>rfl;have QM:(l.attach.mergeSort Uj).Pairwise λx y=>Uj x y=true:=ZP (λa b c h1 h2=>by
  rw[eP]at h1 h2 |-
  simp only[qn]at h1 h2 |-
  exact hC.ntr c.1 c.2 b.1 b.2 a.1 a.2 h2 h1) (λa b=>by
  rw[eP,eP];cases p:fW fg a.1 b.1<;>cases q:fW fg b.1 a.1<;>simp
  have:=hC.tra a.1 a.2 b.1 b.2 a.1 a.2 p q;rw[hC.irr a.1 a.2]at this;cases this) l.attach
 have hv:(l.attach.mergeSort Uj).map Subtype.val=qY fg l:=by
  refine List.Perm.eq_of_pairwise (le:=λa b=>fW fg b a=false) (λa b ha hb h1 h2=>?_) ?_ (vT hC λ_ h=>h) ?_
  ·obtain⟨x,_,rfl⟩:=kl.1 ha;exact hC.ant x.1 x.2 b (mg.mem_iff.1 hb) h2 h1
  ·rw[Ij];exact QM.imp λ{a b}h=>by rw[eP]at h;simpa using h
  ·refine((ZQ l.attach Uj).map Subtype.val).trans ?_;rw[List.attach_map_subtype_val];exact mg.symm
 have e2:(l.attach.mergeSort Uj).map (λx=>E x.1)=(qY fg l).map E:=by
  rw[<-hv,JR];rfl
 have h2:zO (λx y:{x // x∈l}=>fg x.1 y.1) l.attach=some (l.attach.mergeSort Uj):=
  dP ⟨λx y e=>(by have h9:=hC.tot _ x.2 _ y.2;have e:fg x.1 y.1=none:=e;rw[e]at h9;cases h9),
   ⟨λx=>hC.irr _ x.2,λx y z=>hC.tra _ x.2 _ y.2 _ z.2,λx y z=>hC.ntr _ x.2 _ y.2 _ z.2⟩,λx y a b=>Subtype.ext (hC.ant _ x.2 _ y.2 a b),by rw[List.length_attach];exact hC.len⟩
 have h3:=Dg (E:=λx:{x // x∈l}=>E x.1) L h0 aE zE (λx:{x // x∈l}=>c x.1) (λx=>hE x.1) (λx=>hk x.1) hgf hgn SQ (fg:=λx y:{x // x∈l}=>fg x.1 y.1) (λx y r h=>hg x.1 y.1 r h) _ _ h2;rw[e1,e2,List.length_attach]at h3;exact h3
end Go.Am
