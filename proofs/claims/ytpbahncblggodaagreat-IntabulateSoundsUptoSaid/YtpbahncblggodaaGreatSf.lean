/- slices.SortFunc at lists of structs of ints: from the shelf's contract. -/
import Derived.Test.YtpbahncblggodaaGreatSe
import Derived.Shelf.SlSortCmp.NoneTotal
set_option linter.all false
namespace Go.Am
open Go.RowKit Go.Sort
inductive Cl where
 |i (n:Int)
 |b (x:Bool)
instance:Inhabited Cl:=⟨.i 0⟩
def Cl.av:Cl->AV
 |.i n=>AV.i n
 |.b x=>.bool x
def Cl.val:Cl->Value
 |.i n=>.int .i64 n
 |.b x=>.bool x
theorem Cl.V{G:bZ}: ∀c:Cl,V G c.av c.val
 |.i _=>.int _ _
 |.b _=>.bool _
theorem Cl.eq{G:bZ}{c:Cl}{v:Value}(h:Go.Am.V G c.av v):v=c.val:=by
 cases c<;>cases h<;>rfl
theorem Cl.sc(c:Cl):c.av.cS=true:=by cases c<;>rfl
section
variable {α:Type} [Inhabited α]
def encI(c:α->List Cl)(x:α):List Value:=(c x).map Cl.val
theorem vh{c:α->List Cl}{k:Nat}(hk: ∀x,(c x).length=k)(l:List α):(l.flatMap c).length=l.length*k:=by
 induction l with
 |nil=>simp
 |cons x l ih=>
  rw[E5,kc,hk,ih,oc,uw]
  omega
theorem AY{c:α->List Cl}{k:Nat}(h0:0<k)(hk: ∀x,(c x).length=k): ∀(l:List α)(t:Nat),t<l.length*k->(l.flatMap c)[t]? =(l[t / k]?).bind λx=>(c x)[t%k]?
 | [],t,h=>by simp at h
 |x::l,t,h=>by
  rw[E5]
  by_cases ht:t<k
  ·rw[nq (by rw[hk];exact ht),Nat.div_eq_of_lt ht,Nat.mod_eq_of_lt ht]
   rfl
  ·obtain⟨u,rfl⟩: ∃u,t=u+k:=⟨t-k,by omega⟩
   have hu:u<l.length*k:=by
    rw[oc,uw]at h
    omega
   rw[pn (by rw[hk];omega),hk,WT,AY h0 hk l u hu,Nat.add_div_right u h0,Nat.add_mod_right]
   rfl
theorem yU{c:α->List Cl}{k:Nat}(h0:0<k)(hk: ∀x,(c x).length=k)(l:List α):flatK (encI c) k l.toArray=((l.flatMap c).map Cl.val).toArray:=by
 have hl:(flatK (encI c) k l.toArray).size=l.length*k:=by simp
 refine ext_get! (by simp[vh hk]) λt ht=>?_
 have zf:t<l.length*k:=by rw[hl]at ht;exact ht
 have h1:t / k<l.length:=Nat.div_lt_of_lt_mul (by rw[QO];exact zf)
 have h2:t%k<k:=Nat.mod_lt _ h0
 rw[get_flatK _ _ _ t (by simpa using zf)]
 have h3:l.toArray[t / k]! =l[t / k]:=by rw[getElem!_pos _ _ (by simpa using h1)];simp
 have h4:=AY h0 hk l t zf
 rw[dC h1,cH]at h4
 have h5:t%k<(c l[t / k]).length:=by rw[hk];exact h2
 rw[dC h5]at h4
 rw[h3]
 have h6:t<((l.flatMap c).map Cl.val).toArray.size:=by simp[vh hk];exact zf
 rw[getElem!_pos _ t h6]
 obtain⟨h7,h8⟩:=fM.1 h4
 unfold encI
 rw[getElem!_pos _ _ (by simpa using h5)]
 simp[h8]
theorem sJ{c:α->List Cl}{E:α->AV}(hE: ∀x,E x=.agg ((c x).map Cl.av))(l:List α):di (l.map E)=(l.flatMap c).map Cl.av:=by
 unfold di
 induction l with
 |nil=>rfl
 |cons x l ih=>
  simp only[wy,E5,ih,CE]
  rw[hE]
  rfl
theorem Gv{c:α->List Cl}{k:Nat}{E:α->AV}(hE: ∀x,E x=.agg ((c x).map Cl.av))(hk: ∀x,(c x).length=k){G:bZ}{s:St}{w:World}(hs:eA G s w){id:Nat}{l:List α}{r:ux}
  (hg:bH s.heap id=some (.cells k (l.map E))) (ho:G.own id=some r):
  ∃cs e,w.heap[r.block]? =some (.cells cs e (0,0))/\cs.size=r.size/\r.cz=k/\r.bQ+l.length*k<=r.size/\ ∀j x,(l.flatMap c)[j]? =some x->cs[r.bQ+j]? =some x.val:=by
 obtain⟨o,h1,h2⟩:=hs.at hg ho
 generalize hb:gp.cells k (l.map E)=b at h2
 cases h2 with
 |cells cz elems cs e eo dS h0 iz jg eP hV=>
  injection hb with uF wC
  subst uF;subst wC
  refine⟨cs,e,h1,eo,dS,by simpa using eP,λj x hj=>?_⟩
  obtain⟨v,h3,h4⟩:=hV j x.av (by rw[sJ hE,sK,hj];rfl)
  rw[Cl.eq h4]at h3
  exact h3
 |loop=>cases hb
 |gb=>cases hb
theorem zT{c:α->List Cl}{k:Nat}{E:α->AV}(hE: ∀x,E x=.agg ((c x).map Cl.av))(h0:0<k)(hk: ∀x,(c x).length=k){G:bZ}{r:ux}{cs:Array Value}{e:TypeId}{l:List α}(eo:cs.size=r.size)(dS:r.cz=k)
  (eP:r.bQ+l.length*k<=r.size) (hV: ∀j x,(l.flatMap c)[j]? =some x->cs[r.bQ+j]? =some x.val):
  Holds G r (.cells k (l.map E)) (.cells cs e (0,0)):=
 .cells k (l.map E) cs e eo dS h0
  (λx hx=>by
   obtain⟨y,_,rfl⟩:=kb.1 hx
   rw[hE]
   show((c y).map Cl.av).length=k
   rw[mA,hk])
  (λx hx=>by
   rw[sJ hE]at hx
   obtain⟨y,_,rfl⟩:=kb.1 hx
   exact y.sc) (by simpa using eP)
  (λj x hj=>by
   rw[sJ hE,sK]at hj
   obtain⟨y,h1,rfl⟩:=GH.1 hj
   exact⟨_,hV j y h1,y.V⟩)
theorem Nj{w:World}{b off:Nat}{l:List Cl}(h:Go.Sort.Holds Cl.val w b off l.toArray):Go.Sort.Holds id w b off (l.map Cl.val).toArray:=by
 intro j hj
 have XY:j<l.length:=by simpa using hj
 have h1:=h j (by simpa using XY)
 have e1:(l.map Cl.val).toArray[j]! =(l[j]).val:=by rw[getElem!_pos _ j hj];simp
 have e2:l.toArray[j]! =l[j]:=by rw[getElem!_pos _ j (by simpa using XY)];simp
 rw[e2]at h1
 rw[e1]
 exact h1
theorem S4{off:Nat}{cs:Array Value}{d:List Cl}(eP:off+d.length<=cs.size): ∀k x,d[k]? =some x->(Go.Sort.putCells id off (d.map Cl.val).toArray cs)[off+k]? =some x.val:=by
 intro k x hk
 have TW:=(fM.1 hk).1
 unfold Go.Sort.putCells
 rw[Array.getElem?_mapIdx,JP (by omega),gl,if_pos ⟨by omega,by simp;omega⟩]
 have:off+k-off=k:=by omega
 rw[this,getElem!_pos _ k (by simpa using TW)]
 obtain⟨h1,h2⟩:=fM.1 hk
 simp[h2]
end
theorem Cy{G G':bZ}{s:St}{w w':World}(h:Ext G St.nil w G' s w'): ∃q os,w'=grow (w.drewN q) os:=by
 refine⟨w'.drawn-w.drawn,w'.heap.extract w.heap.size w'.heap.size,?_⟩
 have h1:w'.heap=w.heap++w'.heap.extract w.heap.size w'.heap.size:=by
  apply Array.ext_getElem?
  intro b
  by_cases hb:b<w.heap.size
  ·rw[WI hb]
   exact h.keep b hb λ⟨id,blk,r,hg,_⟩=>by simp[St.nil,cR,cG]at hg
  ·rw[Array.getElem?_append_right (by omega),Array.getElem?_extract]
   have:=h.size
   split
   ·congr 1;omega
   ·rename_i hn
    exact X6 (by omega)
 have h2:=h.drawn
 have h3:=h.os
 have h4:=h.tape
 have h5:=h.output
 cases w with
 |mk a1 a2 a3 a4 a5=>
  cases w' with
  |mk b1 b2 b3 b4 b5=>
   simp only[]at h1 h2 h3 h4 h5
   unfold grow World.drewN
   simp only[World.mk.injEq]
   exact⟨h1,h4,by omega,h3,h5⟩
theorem Nk(w:World):eA ⟨λ_ _=>none,λ_=>none⟩ St.nil w:=
 ⟨λ_ _ _ h=>(by cases h),λid b hg=>by simp[St.nil,cR,cG]at hg,λid _ b _ _ _ hg=>by simp[St.nil,cR,cG]at hg,λid b _ _ hg=>by simp[St.nil,cR,cG]at hg,λ_ _=>rfl,λid b hg=>by simp[St.nil,cR,cG]at hg⟩
section
variable {α:Type} [Inhabited α]
theorem Nl{G:bZ}(l:List Cl):V G (.agg (l.map Cl.av)) (.agg (l.map Cl.val).toArray):=
 .agg _ _ (by simp) λi x y hx hy=>by
  rw[sK]at hx
  obtain⟨a,h1,rfl⟩:=GH.1 hx
  simp[h1]at hy
  subst hy
  exact a.V
noncomputable def yV{α:Type}(fg:α->α->Option Int)(l:List α):Option (List α):=
 open Classical in
 if(∀x y,fg x y≠none)/\SWO (Go.Proofs.ltOf λx y=>(fg x y).getD 0)/\(∀x y,Go.Proofs.ltOf (λx y=>(fg x y).getD 0) x y=false->Go.Proofs.ltOf (λx y=>(fg x y).getD 0) y x=false->x=y)/\l.length<=4194304
 then some (l.mergeSort λx y=>!(Go.Proofs.ltOf (λx y=>(fg x y).getD 0) y x))else none
theorem Gw{α:Type}{fg:α->α->Option Int}{l r:List α}(h:yV fg l=some r):r.length=l.length:=by
 unfold yV at h
 split at h
 ·cases h;exact List.length_mergeSort l
 ·cases h
theorem yW{P:Program}{g:FuncId}{c:α->List Cl}{E:α->AV}(hE: ∀x,E x=.agg ((c x).map Cl.av)){x y:α}{r:Int}(h:nz P g [E x,E y] (.i r))(w:World):
  Calls P g #[.agg (encI c x).toArray,.agg (encI c y).toArray] w λe w'=>e=.returned (.int .i64 r)/\ ∃q os,w'=grow (w.drewN q) os:=by
 refine(h St.nil _ w _ (Nk w) ⟨rfl,λi p q hp hq=>?_⟩).mono ?_
 ·rcases i with _|_|i
  ·simp at hp hq;subst hp;subst hq;rw[hE];exact Nl _
  ·simp at hp hq;subst hp;subst hq;rw[hE];exact Nl _
  ·simp at hp
 ·rintro e w' ⟨v,G',y',s',rfl,hV,hS,hX,rfl,rfl⟩
  cases hV
  exact⟨rfl,Cy hX⟩
end
theorem Cz{α:Type}{P:Program}{ρ:Go.Shelf.Ren}(L:Go.Proofs.SlLaysF0.n6 P ρ){k:Nat}(h0:0<k)(aE: ∀w,(isAgg (ρ.t 24)).run P w=.ok true w)(zE: ∀w,(Go.sizeOf (ρ.t 24)).run P w=.ok k w)
  {E : α → AV} (c : α → List Cl) (hE : ∀ x, E x = .agg ((c x).map Cl.av)) (hk : ∀ x, (c x).length = k) {g : FuncId} {gf : Func} {gc : Code} (hgf : P.funcs[g]? = some gf) (hgn : (gf.name == "runtime.NumGoroutine") = false) (Rb : gf.body = some gc)
  {fg:α->α->Option Int} (hg: ∀x y r,fg x y=some r->nz P g [E x,E y] (.i r)) (l r:List α) (h:yV fg l=some r):
  dJ P (ρ.f 6) [.ms 0 0 l.length,.fn g []] ⟨[(0,.cells k (l.map E))],1⟩ λy t=>y=.dW []/\t=⟨[(0,.cells k (r.map E))],1⟩:=by
 have dt:=Gw h
 unfold yV at h
 split at h
 case isFalse=>cases h
 rename_i hc
 obtain⟨aak,hO,hT,v7⟩:=hc
 cases h
 generalize hcf:(λx y=>(fg x y).getD 0)=cf at hO hT dt |-
 intro G w vs hs hv
 obtain⟨eo,GC⟩:=hv
 rcases vs with⟨_|⟨v,_|⟨v2,_|⟨_,_⟩⟩⟩⟩<;>simp at eo
 have It:=GC 1 _ v2 rfl rfl
 cases It with
 |fn _ _ cvs FH hch=>
 have YD:cvs= #[]:=QT (by simpa using FH.symm)
 subst YD
 by_cases hl:0<l.length
 ·haveI:Inhabited α:=⟨l[0]⟩
  obtain⟨rg,cap,ho,rfl,ep,jG⟩:=Ni hs (GC 0 _ v rfl rfl) hl
  obtain⟨cs,e,a1,a2,a3,a4,a5⟩:=Gv hE hk hs (id:=0) (l:=l) rfl ho
  have gh:=hs.iY (id:=0) rfl ho
  have hH:HoldsK (encI c) k w rg.block rg.bQ l.toArray:=by
   unfold HoldsK
   rw[yU h0 hk]
   exact Nj (yT a1 a5)
  refine(Go.Proofs.AnyQ.slices_SortFunc_total L k aE zE (encI c) (λx=>by simp[encI,hk]) (λx v hv=>by
   obtain⟨y,_,rfl⟩:=kb.1 hv
   cases y<;>rfl) cf hO g #[] rg.block rg.bQ cap l.toArray w (Go.Proofs.enters_of hgf hgn Rb) (λm os dk hdk x y=>?_) hH gh (by simp;omega) hT).mono ?_
  ·obtain⟨rr,hrr⟩: ∃rr,fg x y=some rr:=Option.ne_none_iff_exists'.1 (aak x y)
   have:=yW hE (hg x y rr hrr) (Go.Proofs.sortWorldK (encI c) k w rg.block rg.bQ m dk os)
   have hq:cf x y=rr:=by rw[<-hcf];simp[hrr]
   rw[hq]
   simpa using this
  ·rintro e' w' ⟨rfl,n,os,rfl⟩
   have IL:(l.mergeSort λx y=>!(Go.Proofs.ltOf cf) y x).length=l.length:=dt
   have Em:=sI hs (id:=0) (b1:=.cells k ((l.mergeSort λx y=>!(Go.Proofs.ltOf cf) y x).map E)) rfl ho (by intro h;cases h) n
    (Go.Sort.putCells id rg.bQ (((l.mergeSort λx y=>!(Go.Proofs.ltOf cf) y x).flatMap c).map Cl.val).toArray) os (λo QH=>by
     rw[a1]at QH;cases QH
     refine zT hE h0 hk (by simp[Go.Sort.putCells,a2]) a3 (by rw[IL];exact a4) (S4 (by rw[vh hk,IL,a2];exact a4)))
   have hw:sH w n rg.block (Go.Sort.putCells id rg.bQ (((l.mergeSort λx y=>!(Go.Proofs.ltOf cf) y x).flatMap c).map Cl.val).toArray) os=Go.Proofs.sortWorldK (encI c) k w rg.block rg.bQ n (l.mergeSort λx y=>!(Go.Proofs.ltOf cf) y x).toArray os:=by
    unfold Go.Proofs.sortWorldK putRowK
    rw[yU h0 hk]
    rfl
   show vX G _ w _ _ (Go.Proofs.sortWorldK (encI c) k w rg.block rg.bQ n (l.mergeSort λx y=>!(Go.Proofs.ltOf cf) y x).toArray os)
   rw[<-hw]
   exact⟨.tuple #[],G,.dW [],_,rfl,.dW [] #[] rfl (λi x y hx=>by simp at hx),Em.1,Em.2,rfl,rfl⟩
 ·have zB:l=[]:=List.length_eq_zero_iff.1 (by omega)
  subst zB
  obtain⟨p,cap,rfl⟩: ∃p cap,v=.slice p 0 cap:=by
   have:=GC 0 _ v rfl rfl
   generalize hx:AV.ms 0 0 ([]:List α).length=x at this
   cases this with
   |ms fq bL len cap r addr ho ep eP gm=>injection hx with e1 e2 e3;subst e3;exact⟨_,_,rfl⟩
   |gn fq bL cap bQ hc=>exact⟨_,_,rfl⟩
   |_=>cases hx
  refine(Go.Proofs.AnyF.slices_SortFunc_none L p cap _ w).mono ?_
  rintro e' w' ⟨rfl,rfl⟩
  refine⟨.tuple #[],G,.dW [],_,rfl,.dW [] #[] rfl (λi x y hx=>by simp at hx),hs,.refl _ _ _,rfl,?_⟩
  simp
def fy{α:Type}(fg:α->α->Option Int)(x y:α):Bool:=decide ((fg x y).getD 0<0)
def Gx{α:Type}(fg:α->α->Option Int)(x:α):List α->List α
 | []=>[x]
 |y::r=>bif fy fg y x then y::Gx fg x r else x::y::r
def qn{α:Type}(fg:α->α->Option Int):List α->List α
 | []=>[]
 |x::r=>Gx fg x (qn fg r)
def PC{α:Type}[DecidableEq α](fg:α->α->Option Int)(l:List α):Bool:=
 Nat.ble l.length 4194304&&(l.all (λx=>l.all λy=>(fg x y).isSome)&&(l.all (λx=>!fy fg x x)&&
  (l.all (λx=>l.all λy=>l.all λz=>(!(fy fg x y&&fy fg y z)||fy fg x z)&&(!(!fy fg x y&&!fy fg y z)||!fy fg x z))&&l.all λx=>l.all λy=>fy fg x y||(fy fg y x||decide (x=y)))))
def rL{α:Type}[DecidableEq α](fg:α->α->Option Int)(l:List α):Option (List α):=bif PC fg l then some (qn fg l)else none
structure PD {α:Type} (fg:α->α->Option Int) (l:List α):Prop where
 len:l.length<=4194304
 tot: ∀x∈l,∀y∈l,(fg x y).isSome=true
 irr: ∀x∈l,fy fg x x=false
 tra: ∀x∈l,∀y∈l,∀z∈l,fy fg x y=true->fy fg y z=true->fy fg x z=true
 ntr: ∀x∈l,∀y∈l,∀z∈l,fy fg x y=false->fy fg y z=false->fy fg x z=false
 ant: ∀x∈l,∀y∈l,fy fg x y=false->fy fg y x=false->x=y
theorem En{α:Type}[DecidableEq α]{fg:α->α->Option Int}{l:List α}:PC fg l=true↔PD fg l:=by
 unfold PC
 simp only[eW,py,Iw,pC,sS,decide_eq_true_eq]
 constructor
 ·rintro⟨h1,h2,h3,h4,h5⟩
  refine⟨h1,h2,h3,λx hx y hy z hz a b=>?_,λx hx y hy z hz a b=>?_,λx hx y hy a b=>?_⟩
  ·have:=(h4 x hx y hy z hz).1
   simpa[a,b]using this
  ·have:=(h4 x hx y hy z hz).2
   simpa[a,b]using this
  ·have:=h5 x hx y hy
   simpa[a,b]using this
 ·rintro⟨h1,h2,h3,h4,h5,h6⟩
  refine⟨h1,h2,h3,λx hx y hy z hz=>?_,λx hx y hy=>?_⟩
  ·constructor
   ·cases a:fy fg x y<;>cases b:fy fg y z<;>simp
    exact h4 x hx y hy z hz a b
   ·cases a:fy fg x y<;>cases b:fy fg y z<;>simp
    exact h5 x hx y hy z hz a b
  ·cases a:fy fg x y<;>cases b:fy fg y x<;>simp
   exact h6 x hx y hy a b
theorem vk{α:Type}{fg:α->α->Option Int}{x:α}: ∀{l:List α},(Gx fg x l).Perm (x::l)
 | []=>.refl _
 |y::r=>by
  unfold Gx
  cases fy fg y x
  ·exact .refl _
  ·exact(vk.cons y).trans (.swap x y r)
theorem lu{α:Type}{fg:α->α->Option Int}: ∀{l:List α},(qn fg l).Perm l
 | []=>.refl _
 |x::r=>vk.trans (lu.cons x)
theorem Il{α:Type}{fg:α->α->Option Int}{m:List α}(h:PD fg m){x:α}(hx:x∈m): ∀{l:List α},(∀y∈l,y∈m)->l.Pairwise (λa b=>fy fg b a=false)->(Gx fg x l).Pairwise λa b=>fy fg b a=false
 | [],_,_=>by simp[Gx]
 |y::r,hm,hp=>by
  rw[CG]at hp
  have hy:=hm y (by simp)
  unfold Gx
  cases hq:fy fg y x
  ·simp only[cond_false]
   rw[CG]
   refine⟨λz hz=>?_,CG.2 hp⟩
   simp at hz
   rcases hz with rfl|hz
   ·exact hq
   ·exact h.ntr z (hm z (by simp[hz])) y hy x hx (hp.1 z hz) hq
  ·simp only[cond_true]
   rw[CG]
   refine⟨λz hz=>?_,Il h hx (λw hw=>hm w (by simp[hw])) hp.2⟩
   have:=vk.mem_iff.1 hz
   simp at this
   rcases this with rfl|hz
   ·cases hw:fy fg z y
    ·rfl
    ·have:=h.tra y hy z hx y hy hq hw
     rw[h.irr y hy]at this;cases this
   ·exact hp.1 z hz
theorem vl{α:Type}{fg:α->α->Option Int}{m:List α}(h:PD fg m): ∀{l:List α},(∀y∈l,y∈m)->(qn fg l).Pairwise λa b=>fy fg b a=false
 | [],_=>by simp[qn]
 |x::r,hm=>Il h (hm x (by simp)) (λy hy=>hm y (by simp[lu.mem_iff.1 hy])) (vl h λy hy=>hm y (by simp[hy]))
theorem MD{α:Type}[DecidableEq α]{fg:α->α->Option Int}{l:List α}(h:PD fg l): ∃r,rL fg l=some r/\r.Perm l/\r.Pairwise λa b=>fy fg b a=false:=
 ⟨qn fg l,by unfold rL;rw[En.2 h];rfl,lu,vl h λ_ h=>h⟩
theorem mR{α:Type}[DecidableEq α]{P:Program}{ρ:Go.Shelf.Ren}(L:Go.Proofs.SlLaysF0.n6 P ρ){k:Nat}(h0:0<k)(aE: ∀w,(isAgg (ρ.t 24)).run P w=.ok true w)(zE: ∀w,(Go.sizeOf (ρ.t 24)).run P w=.ok k w)
  {E : α → AV} (c : α → List Cl) (hE : ∀ x, E x = .agg ((c x).map Cl.av)) (hk : ∀ x, (c x).length = k) {g : FuncId} {gf : Func} {gc : Code} (hgf : P.funcs[g]? = some gf) (hgn : (gf.name == "runtime.NumGoroutine") = false) (Rb : gf.body = some gc)
  {fg:α->α->Option Int} (hg: ∀x y r,fg x y=some r->nz P g [E x,E y] (.i r)) (l r:List α) (h:rL fg l=some r):
  dJ P (ρ.f 6) [.ms 0 0 l.length,.fn g []] ⟨[(0,.cells k (l.map E))],1⟩ λy t=>y=.dW []/\t=⟨[(0,.cells k (r.map E))],1⟩:=by
 unfold rL at h
 cases hc:PC fg l with
 |false=>rw[hc]at h;cases h
 |true=>
 rw[hc]at h
 cases h
 have hC:=En.1 hc
 have e1:l.attach.map (λx=>E x.1)=l.map E:=by
  have:=congrArg (List.map E) (List.attach_map_subtype_val l)
  rw[Is]at this
  exact this
 let S5:=λx y:{x // x∈l}=>!(Go.Proofs.ltOf (λx y:{x // x∈l}=>(fg x.1 y.1).getD 0) y x)
 have ep: ∀x y:{x // x∈l},S5 x y=!(fy fg y.1 x.1):=λ_ _=>rfl
 have PE:(l.attach.mergeSort S5).Pairwise λx y=>S5 x y=true:=Yg (λa b c h1 h2=>by
  rw[ep]at h1 h2 |-
  simp only[pC]at h1 h2 |-
  exact hC.ntr c.1 c.2 b.1 b.2 a.1 a.2 h2 h1) (λa b=>by
  rw[ep,ep]
  cases p:fy fg a.1 b.1<;>cases q:fy fg b.1 a.1<;>simp
  have:=hC.tra a.1 a.2 b.1 b.2 a.1 a.2 p q
  rw[hC.irr a.1 a.2]at this;cases this) l.attach
 have hv:(l.attach.mergeSort S5).map Subtype.val=qn fg l:=by
  refine List.Perm.eq_of_pairwise (le:=λa b=>fy fg b a=false) (λa b ha hb h1 h2=>?_) ?_ (vl hC λ_ h=>h) ?_
  ·obtain⟨x,_,rfl⟩:=kb.1 ha
   exact hC.ant x.1 x.2 b (lu.mem_iff.1 hb) h2 h1
  ·rw[GJ]
   exact PE.imp λ{a b}h=>by rw[ep]at h;simpa using h
  ·refine((Yf l.attach S5).map Subtype.val).trans ?_
   rw[List.attach_map_subtype_val]
   exact lu.symm
 have e2:(l.attach.mergeSort S5).map (λx=>E x.1)=(qn fg l).map E:=by
  rw[<-hv,Is]
  rfl
 have h2:yV (λx y:{x // x∈l}=>fg x.1 y.1) l.attach=some (l.attach.mergeSort S5):=
  if_pos ⟨λx y e=>(by have h9:=hC.tot _ x.2 _ y.2;have e:fg x.1 y.1=none:=e;rw[e]at h9;cases h9),
   ⟨λx=>hC.irr _ x.2,λx y z=>hC.tra _ x.2 _ y.2 _ z.2,λx y z=>hC.ntr _ x.2 _ y.2 _ z.2⟩,λx y a b=>Subtype.ext (hC.ant _ x.2 _ y.2 a b),by rw[List.length_attach];exact hC.len⟩
 have h3:=Cz (E:=λx:{x // x∈l}=>E x.1) L h0 aE zE (λx:{x // x∈l}=>c x.1) (λx=>hE x.1) (λx=>hk x.1) hgf hgn Rb (fg:=λx y:{x // x∈l}=>fg x.1 y.1) (λx y r h=>hg x.1 y.1 r h) _ _ h2
 rw[e1,e2,List.length_attach]at h3
 exact h3
end Go.Am
