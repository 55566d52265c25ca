/- slices.SortFunc at lists of structs of ints: from the shelf's contract. -/
import Derived.Test.YtgpciecmgoppiaaGreatSe
import Derived.Shelf.SlSortCmp.NoneTotal
set_option linter.all false
namespace Go.Am
open Go.RowKit Go.Sort
inductive Cl where
 |i (n:Int)
 |b (x:Bool)
instance:Inhabited Cl:=⟨.i 0⟩
def Cl.av:Cl->AV
 |.i n=>AV.i n
 |.b x=>.bool x
def Cl.val:Cl->Value
 |.i n=>.int .i64 n
 |.b x=>.bool x
theorem Cl.V{G:bS}: ∀c:Cl,V G c.av c.val
 |.i _=>.int _ _
 |.b _=>.bool _
theorem Cl.eq{G:bS}{c:Cl}{v:Value}(h:Go.Am.V G c.av v):v=c.val:=by
 cases c<;>cases h<;>rfl
theorem Cl.sc(c:Cl):c.av.cJ=true:=by cases c<;>rfl
section
variable {α:Type} [Inhabited α]
def encI(c:α->List Cl)(x:α):List Value:=(c x).map Cl.val
theorem BE{c:α->List Cl}{k:Nat}(hk: ∀x,(c x).length=k)(l:List α):(l.flatMap c).length=l.length*k:=by
 induction l with
 |nil=>simp
 |cons x l ih=>
  grind
theorem BF{c:α->List Cl}{k:Nat}(h0:0<k)(hk: ∀x,(c x).length=k): ∀(l:List α)(t:Nat),t<l.length*k->(l.flatMap c)[t]? =(l[t / k]?).bind λx=>(c x)[t%k]?
 | [],t,h=>by simp at h
 |x::l,t,h=>by
  rw[F1];by_cases ht:t<k
  ·rw[Aq (by rw[hk];exact ht),Nat.div_eq_of_lt ht,Nat.mod_eq_of_lt ht];rfl
  ·obtain⟨u,rfl⟩: ∃u,t=u+k:=⟨t-k,by omega⟩;have hu:u<l.length*k:=by
    rw[vl,F3]at h;omega
   rw[DB (by rw[hk];omega),hk,Nat.add_sub_cancel,BF h0 hk l u hu,Nat.add_div_right u h0,Nat.add_mod_right];rfl
theorem zA{c:α->List Cl}{k:Nat}(h0:0<k)(hk: ∀x,(c x).length=k)(l:List α):flatK (encI c) k l.toArray=((l.flatMap c).map Cl.val).toArray:=by
 have hl:(flatK (encI c) k l.toArray).size=l.length*k:=by simp
 refine ext_get! (by simp[BE hk]) λt ht=>?_;have Gp:t<l.length*k:=by grind
 have h1:t / k<l.length:=Nat.div_lt_of_lt_mul (by grind);have h2:t%k<k:=Nat.mod_lt _ h0;rw[get_flatK _ _ _ t (by grind)];have h3:l.toArray[t / k]! =l[t / k]:=by grind
 have h4:=BF h0 hk l t Gp;rw[dF h1,cN]at h4;have h5:t%k<(c l[t / k]).length:=by grind
 rw[dF h5]at h4;rw[h3];have h6:t<((l.flatMap c).map Cl.val).toArray.size:=by grind
 rw[Wt _ t h6];obtain⟨h7,h8⟩:=lf.1 h4;unfold encI
 grind
theorem sW{c:α->List Cl}{E:α->AV}(hE: ∀x,E x=.agg ((c x).map Cl.av))(l:List α):de (l.map E)=(l.flatMap c).map Cl.av:=by
 unfold de
 induction l with
 |nil=>rfl
 |cons x l ih=>
  simp_all
theorem HD{c:α->List Cl}{k:Nat}{E:α->AV}(hE: ∀x,E x=.agg ((c x).map Cl.av))(hk: ∀x,(c x).length=k){G:bS}{s:St}{w:World}(hs:eG G s w){id:Nat}{l:List α}{r:tx}
  (hg:bn s.heap id=some (.cells k (l.map E))) (ho:G.own id=some r):
  ∃cs e,w.heap[r.block]? =some (.cells cs e (0,0))/\cs.size=r.size/\r.cq=k/\r.bG+l.length*k<=r.size/\ ∀j x,(l.flatMap c)[j]? =some x->cs[r.bG+j]? =some x.val:=by
 obtain⟨o,h1,h2⟩:=hs.at hg ho;generalize hb:gM.cells k (l.map E)=b at h2;cases h2 with
 |cells cq elems cs e eB eo h0 jR kI ga hV=>
  injection hb with yi Gu
  subst yi;subst Gu;refine⟨cs,e,h1,eB,eo,by grind,λj x hj=>?_⟩;obtain⟨v,h3,h4⟩:=hV j x.av (by grind [sW])
  grind [Cl.eq]
 |loop=>cases hb
 |gq=>cases hb
theorem AO{c:α->List Cl}{k:Nat}{E:α->AV}(hE: ∀x,E x=.agg ((c x).map Cl.av))(h0:0<k)(hk: ∀x,(c x).length=k){G:bS}{r:tx}{cs:Array Value}{e:TypeId}{l:List α}(eB:cs.size=r.size)(eo:r.cq=k)
  (ga:r.bG+l.length*k<=r.size) (hV: ∀j x,(l.flatMap c)[j]? =some x->cs[r.bG+j]? =some x.val):
  Holds G r (.cells k (l.map E)) (.cells cs e (0,0)):=
 .cells k (l.map E) cs e eB eo h0
  (λx hx=>by
   obtain⟨y,_,rfl⟩:=mS.1 hx;simp_all)
  (λx hx=>by
   rw[sW hE]at hx;obtain⟨y,_,rfl⟩:=mS.1 hx;exact y.sc) (by grind)
  (λj x hj=>by
   rw[sW hE,xR]at hj;obtain⟨y,h1,rfl⟩:=L2.1 hj;exact⟨_,hV j y h1,y.V⟩)
theorem UY{off:Nat}{cs:Array Value}{d:List Cl}(ga:off+d.length<=cs.size): ∀k x,d[k]? =some x->(Go.Sort.putCells id off (d.map Cl.val).toArray cs)[off+k]? =some x.val:=by
 intro k x hk;have ZG:=(lf.1 hk).1;unfold Go.Sort.putCells
 grind
end
theorem C4{G G':bS}{s:St}{w w':World}(h:Ext G St.nil w G' s w'): ∃q os,w'=grow (w.drewN q) os:=by
 refine⟨w'.drawn-w.drawn,w'.heap.extract w.heap.size w'.heap.size,?_⟩;have h1:w'.heap=w.heap++w'.heap.extract w.heap.size w'.heap.size:=by
  apply Array.ext_getElem?;intro b;by_cases hb:b<w.heap.size
  ·rw[zD0 hb];exact h.keep b hb λ⟨id,blk,r,hg,_⟩=>by simp[St.nil,df,cG]at hg
  grind
 have h2:=h.drawn;have h3:=h.os;have h4:=h.tape;have h5:=h.output;cases w with
 |mk a1 a2 a3 a4 a5=>
  cases w' with
  |mk b1 b2 b3 b4 b5=>
   simp only[]at h1 h2 h3 h4 h5;unfold grow World.drewN
   grind [World.mk.injEq]
theorem Om{G:bS}{s:St}{w:World}(hs:eG G s w){id:Nat}{b0:gM}{r:tx}(hg:bn s.heap id=some b0)(ho:G.own id=some r)(n:Nat)(f:Array Value->Array Value)(os:Array Obj):
  eG ⟨G.ig,λ_=>none⟩ St.nil (qK w n r.block f os):=
 ⟨⟨λb o v hi=>by
  have hb:=hs.qg hi;have fG:r.block≠b:=by
   rintro rfl;rw[hs.clear id b0 r o hg ho]at hi;cases hi
  have:=hs.ig b o v hi;unfold World.cell? at this |-
  simp_all[l9],hs.lW.2⟩,λid b hg=>by simp[St.nil,df,cG]at hg,λid _ b _ _ _ hg=>by grind,λid b _ _ hg=>by grind,λ_ _=>rfl,λid b hg=>by simp[St.nil,df,cG]at hg⟩
section
variable {α:Type} [Inhabited α]
theorem On{G:bS}(l:List Cl):V G (.agg (l.map Cl.av)) (.agg (l.map Cl.val).toArray):=
 .agg _ _ (by simp) λi x y hx hy=>by
  rw[xR]at hx;obtain⟨a,h1,rfl⟩:=L2.1 hx;simp[h1]at hy;subst hy;exact a.V
noncomputable def zB{α:Type}(fg:α->α->Option Int)(l:List α):Option (List α):=
 open Classical in
 if(∀x y,fg x y≠none)/\SWO (Go.Proofs.ltOf λx y=>(fg x y).getD 0)/\(∀x y,Go.Proofs.ltOf (λx y=>(fg x y).getD 0) x y=false->Go.Proofs.ltOf (λx y=>(fg x y).getD 0) y x=false->x=y)/\l.length<=4194304
 then some (l.mergeSort λx y=>!(Go.Proofs.ltOf (λx y=>(fg x y).getD 0) y x))else none
theorem HE{α:Type}{fg:α->α->Option Int}{l r:List α}(h:zB fg l=some r):r.length=l.length:=by
 unfold zB at h
 grind [List.length_mergeSort]
theorem zC{P:Program}{g:FuncId}{c:α->List Cl}{E:α->AV}(hE: ∀x,E x=.agg ((c x).map Cl.av)){x y:α}{r:Int}(h:nf P g [E x,E y] (.i r)){G:bS}{w:World}(hw:eG ⟨G.ig,λ_=>none⟩ St.nil w):
  Calls P g #[.agg (encI c x).toArray,.agg (encI c y).toArray] w λe w'=>e=.returned (.int .i64 r)/\ ∃q os,w'=grow (w.drewN q) os:=by
 refine(h St.nil _ w _ hw ⟨rfl,λi p q hp hq=>?_⟩).mono ?_
 ·rcases i with _|_|i
  ·simp at hp hq;subst hp;subst hq;rw[hE];exact On _
  ·simp at hp hq;subst hp;subst hq;rw[hE];exact On _
  ·simp at hp
 ·rintro e w' ⟨v,G',y',s',rfl,hV,hS,hX,rfl,rfl⟩;cases hV
  grind [C4]
end
theorem C5{α:Type}{P:Program}{ρ:Go.Shelf.Ren}(L:Go.Proofs.SlLaysF0.n6 P ρ){k:Nat}(h0:0<k)(aE: ∀w,(isAgg (ρ.t 24)).run P w=.ok true w)(zE: ∀w,(Go.sizeOf (ρ.t 24)).run P w=.ok k w)
  {E : α → AV} (c : α → List Cl) (hE : ∀ x, E x = .agg ((c x).map Cl.av)) (hk : ∀ x, (c x).length = k) {g : FuncId} {gf : Func} {gc : Code} (hgf : P.funcs[g]? = some gf) (hgn : (gf.name == "runtime.NumGoroutine") = false) (Ts : gf.body = some gc)
  {fg:α->α->Option Int} (hg: ∀x y r,fg x y=some r->nf P g [E x,E y] (.i r)) (l r:List α) (h:zB fg l=some r):
  dw P (ρ.f 6) [.ms 0 0 l.length,.fn g []] ⟨[(0,.cells k (l.map E))],1⟩ λy t=>y=.dS []/\t=⟨[(0,.cells k (r.map E))],1⟩:=by
 have dK:=HE h;unfold zB at h;split at h
 case isFalse=>cases h
 rename_i hc;obtain⟨aaX,hO,hT,w8⟩:=hc;cases h;generalize hcf:(λx y=>(fg x y).getD 0)=cf at hO hT dK |-
 intro G w vs hs hv;obtain⟨eB,Jl⟩:=hv;rcases vs with⟨_|⟨v,_|⟨v2,_|⟨_,_⟩⟩⟩⟩<;>simp at eB
 have LK:=Jl 1 _ v2 rfl rfl;cases LK with
 |fn _ _ cvs F6 hch=>
 have hcv:cvs= #[]:=VH (by grind);subst hcv;by_cases hl:0<l.length
 ·haveI:Inhabited α:=⟨l[0]⟩
  obtain⟨rg,cap,ho,rfl,eR,jC⟩:=Ol hs (Jl 0 _ v rfl rfl) hl;obtain⟨cs,e,a1,a2,a3,a4,a5⟩:=HD hE hk hs (id:=0) (l:=l) rfl ho;have kc:=hs.jE (id:=0) rfl ho;have hH:HoldsK (encI c) k w rg.block rg.bG l.toArray:=by
   unfold HoldsK
   grind [zA,zy]
  refine(Go.Proofs.AnyQ.slices_SortFunc_total L k aE zE (encI c) (λx=>by simp[encI,hk]) (λx v hv=>by
   obtain⟨y,_,rfl⟩:=mS.1 hv;cases y<;>rfl) cf hO g #[] rg.block rg.bG cap l.toArray w (Go.Proofs.enters_of hgf hgn Ts) (λm os dk hdk x y=>?_) hH kc (by simp;omega) hT).mono ?_
  ·obtain⟨rr,hrr⟩: ∃rr,fg x y=some rr:=Option.ne_none_iff_exists'.1 (aaX x y);have Zc:=Om hs (id:=0) rfl ho m (Go.Sort.putCells id rg.bG (flatK (encI c) k dk)) os;have ew:Go.Proofs.sortWorldK (encI c) k w rg.block rg.bG m dk os=qK w m rg.block (Go.Sort.putCells id rg.bG (flatK (encI c) k dk)) os:=by rfl
   rw[<-ew]at Zc;have:=zC hE (hg x y rr hrr) Zc
   grind
  ·rintro e' w' ⟨rfl,n,os,rfl⟩;have R3:(l.mergeSort λx y=>!(Go.Proofs.ltOf cf) y x).length=l.length:=dK;have ET:=sV hs (id:=0) (b1:=.cells k ((l.mergeSort λx y=>!(Go.Proofs.ltOf cf) y x).map E)) rfl ho (by grind) n
    (Go.Sort.putCells id rg.bG (((l.mergeSort λx y=>!(Go.Proofs.ltOf cf) y x).flatMap c).map Cl.val).toArray) os (λo SN=>by
     rw[a1]at SN;cases SN;refine AO hE h0 hk (by simp[Go.Sort.putCells,a2]) a3 (by grind) (UY (by grind [BE])))
   have hw:qK w n rg.block (Go.Sort.putCells id rg.bG (((l.mergeSort λx y=>!(Go.Proofs.ltOf cf) y x).flatMap c).map Cl.val).toArray) os=Go.Proofs.sortWorldK (encI c) k w rg.block rg.bG n (l.mergeSort λx y=>!(Go.Proofs.ltOf cf) y x).toArray os:=by
    unfold Go.Proofs.sortWorldK putRowK;rw[zA h0 hk];rfl
   show wZ G _ w _ _ (Go.Proofs.sortWorldK (encI c) k w rg.block rg.bG n (l.mergeSort λx y=>!(Go.Proofs.ltOf cf) y x).toArray os);rw[<-hw];exact⟨.tuple #[],G,.dS [],_,rfl,.dS [] #[] rfl (λi x y hx=>by simp at hx),ET.1,ET.2,rfl,rfl⟩
 ·have LM:l=[]:=YM.1 (by omega);subst LM;obtain⟨p,cap,rfl⟩: ∃p cap,v=.slice p 0 cap:=by
   have:=Jl 0 _ v rfl rfl;generalize hx:AV.ms 0 0 ([]:List α).length=x at this;cases this with
   |ms fq bq len cap r addr ho eR ga iK=>grind
   |gO fq bq cap bG hc=>grind
   |_=>cases hx
  refine(Go.Proofs.AnyF.slices_SortFunc_none L p cap _ w).mono ?_;rintro e' w' ⟨rfl,rfl⟩;refine⟨.tuple #[],G,.dS [],_,rfl,.dS [] #[] rfl (λi x y hx=>by simp at hx),hs,.refl _ _ _,rfl,?_⟩;simp
def gC{α:Type}(fg:α->α->Option Int)(x y:α):Bool:=decide ((fg x y).getD 0<0)
def HF{α:Type}(fg:α->α->Option Int)(x:α):List α->List α
 | []=>[x]
 |y::r=>bif gC fg y x then y::HF fg x r else x::y::r
def qL{α:Type}(fg:α->α->Option Int):List α->List α
 | []=>[]
 |x::r=>HF fg x (qL fg r)
def Rt{α:Type}[DecidableEq α](fg:α->α->Option Int)(l:List α):Bool:=
 Nat.ble l.length 4194304&&(l.all (λx=>l.all λy=>(fg x y).isSome)&&(l.all (λx=>!gC fg x x)&&
  (l.all (λx=>l.all λy=>l.all λz=>(!(gC fg x y&&gC fg y z)||gC fg x z)&&(!(!gC fg x y&&!gC fg y z)||!gC fg x z))&&l.all λx=>l.all λy=>gC fg x y||(gC fg y x||decide (x=y)))))
def sA{α:Type}[DecidableEq α](fg:α->α->Option Int)(l:List α):Option (List α):=bif Rt fg l then some (qL fg l)else none
structure Ru {α:Type} (fg:α->α->Option Int) (l:List α):Prop where
 len:l.length<=4194304
 tot: ∀x∈l,∀y∈l,(fg x y).isSome=true
 irr: ∀x∈l,gC fg x x=false
 tra: ∀x∈l,∀y∈l,∀z∈l,gC fg x y=true->gC fg y z=true->gC fg x z=true
 ntr: ∀x∈l,∀y∈l,∀z∈l,gC fg x y=false->gC fg y z=false->gC fg x z=false
 ant: ∀x∈l,∀y∈l,gC fg x y=false->gC fg y x=false->x=y
theorem EV{α:Type}[DecidableEq α]{fg:α->α->Option Int}{l:List α}:Rt fg l=true↔Ru fg l:=by
 unfold Rt;simp only[eU,qc,Gg,sr,vm,BW];constructor
 ·rintro⟨h1,h2,h3,h4,h5⟩;refine⟨h1,h2,h3,λx hx y hy z hz a b=>?_,λx hx y hy z hz a b=>?_,λx hx y hy a b=>?_⟩
  all_goals grind
 ·rintro⟨h1,h2,h3,h4,h5,h6⟩
  grind
theorem vL{α:Type}{fg:α->α->Option Int}{x:α}: ∀{l:List α},(HF fg x l).Perm (x::l)
 | []=>.refl _
 |y::r=>by
  unfold HF;cases gC fg y x
  ·exact .refl _
  ·exact(vL.cons y).trans (.swap x y r)
theorem ma{α:Type}{fg:α->α->Option Int}: ∀{l:List α},(qL fg l).Perm l
 | []=>.refl _
 |x::r=>vL.trans (ma.cons x)
theorem Jm{α:Type}{fg:α->α->Option Int}{m:List α}(h:Ru fg m){x:α}(hx:x∈m): ∀{l:List α},(∀y∈l,y∈m)->l.Pairwise (λa b=>gC fg b a=false)->(HF fg x l).Pairwise λa b=>gC fg b a=false
 | [],_,_=>by simp[HF]
 |y::r,hm,hp=>by
  rw[Dt]at hp;have hy:=hm y (by simp);unfold HF;cases hq:gC fg y x
  ·simp only[dv];rw[Dt];refine⟨λz hz=>?_,Dt.2 hp⟩;simp at hz;rcases hz with rfl|hz
   ·exact hq
   ·exact h.ntr z (hm z (by simp[hz])) y hy x hx (hp.1 z hz) hq
  ·simp only[cP];rw[Dt];refine⟨λz hz=>?_,Jm h hx (λw hw=>hm w (by simp[hw])) hp.2⟩;have:=vL.mem_iff.1 hz;simp at this;rcases this with rfl|hz
   ·cases hw:gC fg z y
    ·rfl
    ·have:=h.tra y hy z hx y hy hq hw;rw[h.irr y hy]at this;cases this
   grind
theorem vM{α:Type}{fg:α->α->Option Int}{m:List α}(h:Ru fg m): ∀{l:List α},(∀y∈l,y∈m)->(qL fg l).Pairwise λa b=>gC fg b a=false
 | [],_=>by simp[qL]
 |x::r,hm=>Jm h (hm x (by simp)) (λy hy=>hm y (by simp[ma.mem_iff.1 hy])) (vM h λy hy=>hm y (by simp[hy]))
theorem Oo{α:Type}[DecidableEq α]{fg:α->α->Option Int}{l:List α}(h:Ru fg l): ∃r,sA fg l=some r/\r.Perm l/\r.Pairwise λa b=>gC fg b a=false:=
 ⟨qL fg l,by unfold sA;rw[EV.2 h];rfl,ma,vM h λ_ h=>h⟩
theorem nJ{α:Type}[DecidableEq α]{P:Program}{ρ:Go.Shelf.Ren}(L:Go.Proofs.SlLaysF0.n6 P ρ){k:Nat}(h0:0<k)(aE: ∀w,(isAgg (ρ.t 24)).run P w=.ok true w)(zE: ∀w,(Go.sizeOf (ρ.t 24)).run P w=.ok k w)
  {E : α → AV} (c : α → List Cl) (hE : ∀ x, E x = .agg ((c x).map Cl.av)) (hk : ∀ x, (c x).length = k) {g : FuncId} {gf : Func} {gc : Code} (hgf : P.funcs[g]? = some gf) (hgn : (gf.name == "runtime.NumGoroutine") = false) (Ts : gf.body = some gc)
  {fg:α->α->Option Int} (hg: ∀x y r,fg x y=some r->nf P g [E x,E y] (.i r)) (l r:List α) (h:sA fg l=some r):
  dw P (ρ.f 6) [.ms 0 0 l.length,.fn g []] ⟨[(0,.cells k (l.map E))],1⟩ λy t=>y=.dS []/\t=⟨[(0,.cells k (r.map E))],1⟩:=by
 unfold sA at h;cases hc:Rt fg l with
 |false=>grind
 |true=>
 rw[hc]at h;cases h;have hC:=EV.1 hc;have e1:l.attach.map (λx=>E x.1)=l.map E:=by
  simp_all
 let UZ:=λx y:{x // x∈l}=>!(Go.Proofs.ltOf (λx y:{x // x∈l}=>(fg x.1 y.1).getD 0) y x);have eR: ∀x y:{x // x∈l},UZ x y=!(gC fg y.1 x.1):=λ_ _=>rfl;have ZH:(l.attach.mergeSort UZ).Pairwise λx y=>UZ x y=true:=List.pairwise_mergeSort (λa b c h1 h2=>by
  rw[eR]at h1 h2 |-
  simp only[sr]at h1 h2 |-
  exact hC.ntr c.1 c.2 b.1 b.2 a.1 a.2 h2 h1) (λa b=>by
  rw[eR,eR];cases p:gC fg a.1 b.1<;>cases q:gC fg b.1 a.1<;>simp
  have:=hC.tra a.1 a.2 b.1 b.2 a.1 a.2 p q;rw[hC.irr a.1 a.2]at this;cases this) l.attach
 have hv:(l.attach.mergeSort UZ).map Subtype.val=qL fg l:=by
  refine List.Perm.eq_of_pairwise (le:=λa b=>gC fg b a=false) (λa b ha hb h1 h2=>?_) ?_ (vM hC λ_ h=>h) ?_
  ·obtain⟨x,_,rfl⟩:=mS.1 ha;exact hC.ant x.1 x.2 b (ma.mem_iff.1 hb) h2 h1
  ·grind
  ·refine((List.mergeSort_perm l.attach UZ).map Subtype.val).trans ?_;rw[List.attach_map_subtype_val];exact ma.symm
 have e2:(l.attach.mergeSort UZ).map (λx=>E x.1)=(qL fg l).map E:=by
  simp_all
 have h2:zB (λx y:{x // x∈l}=>fg x.1 y.1) l.attach=some (l.attach.mergeSort UZ):=
  ez ⟨λx y e=>(by have h9:=hC.tot _ x.2 _ y.2;grind),
   ⟨λx=>hC.irr _ x.2,λx y z=>hC.tra _ x.2 _ y.2 _ z.2,λx y z=>hC.ntr _ x.2 _ y.2 _ z.2⟩,λx y a b=>Subtype.ext (hC.ant _ x.2 _ y.2 a b),by rw[List.length_attach];exact hC.len⟩
 have h3:=C5 (E:=λx:{x // x∈l}=>E x.1) L h0 aE zE (λx:{x // x∈l}=>c x.1) (λx=>hE x.1) (λx=>hk x.1) hgf hgn Ts (fg:=λx y:{x // x∈l}=>fg x.1 y.1) (λx y r h=>hg x.1 y.1 r h) _ _ h2
 grind
end Go.Am
