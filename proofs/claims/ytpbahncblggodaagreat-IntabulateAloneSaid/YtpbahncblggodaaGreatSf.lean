/-
  slices.SortFunc at lists of structs of ints: from the shelf's contract.
  Own work. No Go text.
-/
import Derived.Test.YtpbahncblggodaaGreatSe
import Derived.Shelf.SlSortCmp.NoneTotal
set_option linter.all false
namespace Go.Am
open Go.RowKit Go.Sort
section
variable {α:Type} [Inhabited α]
def encI(c:α->List Int)(x:α):List Value:=(c x).map (.int .i64)
theorem flatC_len{c:α->List Int}{k:Nat}(hk: ∀x,(c x).length=k)(l:List α):(l.flatMap c).length=l.length*k:=by
 induction l with
 |nil=>simp
 |cons x l ih=>
  rw[List.flatMap_cons,List.length_append,hk,ih,List.length_cons,Nat.add_mul]
  omega
theorem flatC_get{c:α->List Int}{k:Nat}(h0:0<k)(hk: ∀x,(c x).length=k): ∀(l:List α)(t:Nat),t<l.length*k->(l.flatMap c)[t]? =(l[t / k]?).bind λx=>(c x)[t%k]?
 | [],t,h=>by simp at h
 |x::l,t,h=>by
  rw[List.flatMap_cons]
  by_cases ht:t<k
  ·rw[List.getElem?_append_left (by rw[hk];exact ht),Nat.div_eq_of_lt ht,Nat.mod_eq_of_lt ht]
   rfl
  ·obtain⟨u,rfl⟩: ∃u,t=u+k:=⟨t-k,by omega⟩
   have hu:u<l.length*k:=by
    rw[List.length_cons,Nat.add_mul]at h
    omega
   rw[List.getElem?_append_right (by rw[hk];omega),hk,Nat.add_sub_cancel,flatC_get h0 hk l u hu,Nat.add_div_right u h0,Nat.add_mod_right]
   rfl
theorem flatK_ints{c:α->List Int}{k:Nat}(h0:0<k)(hk: ∀x,(c x).length=k)(l:List α):flatK (encI c) k l.toArray=((l.flatMap c).map (Value.int .i64)).toArray:=by
 have hl:(flatK (encI c) k l.toArray).size=l.length*k:=by simp
 refine ext_get! (by simp[flatC_len hk]) λt ht=>?_
 have ht':t<l.length*k:=by rw[hl]at ht;exact ht
 have h1:t / k<l.length:=Nat.div_lt_of_lt_mul (by rw[Nat.mul_comm];exact ht')
 have h2:t%k<k:=Nat.mod_lt _ h0
 rw[get_flatK _ _ _ t (by simpa using ht')]
 have h3:l.toArray[t / k]! =l[t / k]:=by rw[getElem!_pos _ _ (by simpa using h1)];simp
 have h4:=flatC_get h0 hk l t ht'
 rw[List.getElem?_eq_getElem h1,Option.bind_some]at h4
 have h5:t%k<(c l[t / k]).length:=by rw[hk];exact h2
 rw[List.getElem?_eq_getElem h5]at h4
 rw[h3]
 have h6:t<((l.flatMap c).map (Value.int .i64)).toArray.size:=by simp[flatC_len hk];exact ht'
 rw[getElem!_pos _ t h6]
 obtain⟨h7,h8⟩:=List.getElem?_eq_some_iff.1 h4
 unfold encI
 rw[getElem!_pos _ _ (by simpa using h5)]
 simp[h8]
theorem flat_cells{c:α->List Int}{E:α->AV}(hE: ∀x,E x=.agg ((c x).map AV.i))(l:List α):flat (l.map E)=(l.flatMap c).map AV.i:=by
 unfold flat
 induction l with
 |nil=>rfl
 |cons x l ih=>
  simp only[List.map_cons,List.flatMap_cons,ih,List.map_append]
  rw[hE]
  rfl
theorem structs_at{c:α->List Int}{k:Nat}{E:α->AV}(hE: ∀x,E x=.agg ((c x).map AV.i))(hk: ∀x,(c x).length=k){G:Ghost}{s:St}{w:World}(hs:Sim G s w){id:Nat}{l:List α}{r:Reg}
  (hg:eget s.heap id=some (.cells k (l.map E))) (ho:G.own id=some r):
  ∃cs e,w.heap[r.block]? =some (.cells cs e (0,0))/\cs.size=r.size/\r.esz=k/\r.base+l.length*k<=r.size/\ ∀j x,(l.flatMap c)[j]? =some x->cs[r.base+j]? =some (.int .i64 x):=by
 obtain⟨o,h1,h2⟩:=hs.at hg ho
 generalize hb:Blk.cells k (l.map E)=b at h2
 cases h2 with
 |cells esz elems cs e hsz hesz h0 hel hsc hin hV=>
  injection hb with hb1 hb2
  subst hb1;subst hb2
  refine⟨cs,e,h1,hsz,hesz,by simpa using hin,λj x hj=>?_⟩
  obtain⟨v,h3,h4⟩:=hV j (AV.i x) (by rw[flat_cells hE,List.getElem?_map,hj];rfl)
  cases h4
  exact h3
 |loop=>cases hb
 |dfr=>cases hb
theorem holds_structs{c:α->List Int}{k:Nat}{E:α->AV}(hE: ∀x,E x=.agg ((c x).map AV.i))(h0:0<k)(hk: ∀x,(c x).length=k){G:Ghost}{r:Reg}{cs:Array Value}{e:TypeId}{l:List α}(hsz:cs.size=r.size)(hesz:r.esz=k)
  (hin:r.base+l.length*k<=r.size) (hV: ∀j x,(l.flatMap c)[j]? =some x->cs[r.base+j]? =some (.int .i64 x)):
  Holds G r (.cells k (l.map E)) (.cells cs e (0,0)):=
 .cells k (l.map E) cs e hsz hesz h0
  (λx hx=>by
   obtain⟨y,_,rfl⟩:=List.mem_map.1 hx
   rw[hE]
   show((c y).map AV.i).length=k
   rw[List.length_map,hk])
  (λx hx=>by
   rw[flat_cells hE]at hx
   obtain⟨y,_,rfl⟩:=List.mem_map.1 hx
   rfl) (by simpa using hin)
  (λj x hj=>by
   rw[flat_cells hE,List.getElem?_map]at hj
   obtain⟨y,h1,rfl⟩:=Option.map_eq_some_iff.1 hj
   exact⟨_,hV j y h1,.int _ _⟩)
theorem holds_id{w:World}{b off:Nat}{l:List Int}(h:Go.Sort.Holds (Value.int .i64) w b off l.toArray):Go.Sort.Holds id w b off (l.map (Value.int .i64)).toArray:=by
 intro j hj
 have hj':j<l.length:=by simpa using hj
 have h1:=h j (by simpa using hj')
 have e1:(l.map (Value.int .i64)).toArray[j]! =.int .i64 l[j]:=by rw[getElem!_pos _ j hj];simp
 have e2:l.toArray[j]! =l[j]:=by rw[getElem!_pos _ j (by simpa using hj')];simp
 rw[e2]at h1
 rw[e1]
 exact h1
theorem put_id{off:Nat}{cs:Array Value}{d:List Int}(hin:off+d.length<=cs.size): ∀k x,d[k]? =some x->(Go.Sort.putCells id off (d.map (Value.int .i64)).toArray cs)[off+k]? =some (.int .i64 x):=by
 intro k x hk
 have hkl:=(List.getElem?_eq_some_iff.1 hk).1
 unfold Go.Sort.putCells
 rw[Array.getElem?_mapIdx,Array.getElem?_eq_getElem (by omega),Option.map_some,if_pos ⟨by omega,by simp;omega⟩]
 have:off+k-off=k:=by omega
 rw[this,getElem!_pos _ k (by simpa using hkl)]
 obtain⟨h1,h2⟩:=List.getElem?_eq_some_iff.1 hk
 simp[h2]
end
theorem grown_of_ext{G G':Ghost}{s:St}{w w':World}(h:Ext G St.nil w G' s w'): ∃q os,w'=grow (w.drewN q) os:=by
 refine⟨w'.drawn-w.drawn,w'.heap.extract w.heap.size w'.heap.size,?_⟩
 have h1:w'.heap=w.heap++w'.heap.extract w.heap.size w'.heap.size:=by
  apply Array.ext_getElem?
  intro b
  by_cases hb:b<w.heap.size
  ·rw[Array.getElem?_append_left hb]
   exact h.keep b hb λ⟨id,blk,r,hg,_⟩=>by simp[St.nil,egetN,egetC]at hg
  ·rw[Array.getElem?_append_right (by omega),Array.getElem?_extract]
   have:=h.size
   split
   ·congr 1;omega
   ·rename_i hn
    exact Array.getElem?_eq_none (by omega)
 have h2:=h.drawn
 have h3:=h.os
 have h4:=h.tape
 have h5:=h.output
 cases w with
 |mk a1 a2 a3 a4 a5=>
  cases w' with
  |mk b1 b2 b3 b4 b5=>
   simp only[]at h1 h2 h3 h4 h5
   unfold grow World.drewN
   simp only[World.mk.injEq]
   exact⟨h1,h4,by omega,h3,h5⟩
theorem sim_none(w:World):Sim ⟨λ_ _=>none,λ_=>none⟩ St.nil w:=
 ⟨λ_ _ _ h=>(by cases h),λid b hg=>by simp[St.nil,egetN,egetC]at hg,λid _ b _ _ _ hg=>by simp[St.nil,egetN,egetC]at hg,λid b _ _ hg=>by simp[St.nil,egetN,egetC]at hg,λ_ _=>rfl,λid b hg=>by simp[St.nil,egetN,egetC]at hg⟩
section
variable {α:Type} [Inhabited α]
theorem V_ints{G:Ghost}(l:List Int):V G (.agg (l.map AV.i)) (.agg (l.map (Value.int .i64)).toArray):=
 .agg _ _ (by simp) λi x y hx hy=>by
  rw[List.getElem?_map]at hx
  obtain⟨a,h1,rfl⟩:=Option.map_eq_some_iff.1 hx
  simp[h1]at hy
  subst hy
  exact .int _ _
noncomputable def sortF0{α:Type}(fg:α->α->Option Int)(l:List α):Option (List α):=
 open Classical in
 if(∀x y,fg x y≠none)/\SWO (Go.Proofs.ltOf λx y=>(fg x y).getD 0)/\(∀x y,Go.Proofs.ltOf (λx y=>(fg x y).getD 0) x y=false->Go.Proofs.ltOf (λx y=>(fg x y).getD 0) y x=false->x=y)/\l.length<=4194304
 then some (l.mergeSort λx y=>!(Go.Proofs.ltOf (λx y=>(fg x y).getD 0) y x))else none
theorem sortF0_len{α:Type}{fg:α->α->Option Int}{l r:List α}(h:sortF0 fg l=some r):r.length=l.length:=by
 unfold sortF0 at h
 split at h
 ·cases h;exact List.length_mergeSort l
 ·cases h
theorem callsF_of_pure{P:Program}{g:FuncId}{c:α->List Int}{E:α->AV}(hE: ∀x,E x=.agg ((c x).map AV.i)){x y:α}{r:Int}(h:APure P g [E x,E y] (.i r))(w:World):
  Calls P g #[.agg (encI c x).toArray,.agg (encI c y).toArray] w λe w'=>e=.returned (.int .i64 r)/\ ∃q os,w'=grow (w.drewN q) os:=by
 refine(h St.nil _ w _ (sim_none w) ⟨rfl,λi p q hp hq=>?_⟩).mono ?_
 ·rcases i with _|_|i
  ·simp at hp hq;subst hp;subst hq;rw[hE];exact V_ints _
  ·simp at hp hq;subst hp;subst hq;rw[hE];exact V_ints _
  ·simp at hp
 ·rintro e w' ⟨v,G',y',s',rfl,hV,hS,hX,rfl,rfl⟩
  cases hV
  exact⟨rfl,grown_of_ext hX⟩
end
theorem sortf_calls0{α:Type}{P:Program}{ρ:Go.Shelf.Ren}(L:Go.Proofs.SlLaysF0.n6 P ρ){k:Nat}(h0:0<k)(aE: ∀w,(isAgg (ρ.t 24)).run P w=.ok true w)(zE: ∀w,(Go.sizeOf (ρ.t 24)).run P w=.ok k w)
  {E : α → AV} (c : α → List Int) (hE : ∀ x, E x = .agg ((c x).map AV.i)) (hk : ∀ x, (c x).length = k) {g : FuncId} {gf : Func} {gc : Code} (hgf : P.funcs[g]? = some gf) (hgn : (gf.name == "runtime.NumGoroutine") = false) (hgb : gf.body = some gc)
  {fg:α->α->Option Int} (hg: ∀x y r,fg x y=some r->APure P g [E x,E y] (.i r)) (l r:List α) (h:sortF0 fg l=some r):
  ACalls P (ρ.f 6) [.ms 0 0 l.length,.fn g []] ⟨[(0,.cells k (l.map E))],1⟩ λy t=>y=.tup []/\t=⟨[(0,.cells k (r.map E))],1⟩:=by
 have hlen:=sortF0_len h
 unfold sortF0 at h
 split at h
 case isFalse=>cases h
 rename_i hc
 obtain⟨htot,hO,hT,hmax⟩:=hc
 cases h
 generalize hcf:(λx y=>(fg x y).getD 0)=cf at hO hT hlen ⊢
 intro G w vs hs hv
 obtain⟨hsz,hvv⟩:=hv
 rcases vs with⟨_|⟨v,_|⟨v2,_|⟨_,_⟩⟩⟩⟩<;>simp at hsz
 have hv2:=hvv 1 _ v2 rfl rfl
 cases hv2 with
 |fn _ _ cvs hcl hch=>
 have hcv:cvs= #[]:=Array.eq_empty_of_size_eq_zero (by simpa using hcl.symm)
 subst hcv
 by_cases hl:0<l.length
 ·haveI:Inhabited α:=⟨l[0]⟩
  obtain⟨rg,cap,ho,rfl,hle,hcap⟩:=ms_at hs (hvv 0 _ v rfl rfl) hl
  obtain⟨cs,e,a1,a2,a3,a4,a5⟩:=structs_at hE hk hs (id:=0) (l:=l) rfl ho
  have hlt:=hs.own_lt (id:=0) rfl ho
  have hH:HoldsK (encI c) k w rg.block rg.base l.toArray:=by
   unfold HoldsK
   rw[flatK_ints h0 hk]
   exact holds_id (row_ints a1 a5)
  refine(Go.Proofs.AnyQ.slices_SortFunc_total L k aE zE (encI c) (λx=>by simp[encI,hk]) (λx v hv=>by
   obtain⟨y,_,rfl⟩:=List.mem_map.1 hv
   rfl) cf hO g #[] rg.block rg.base cap l.toArray w (Go.Proofs.enters_of hgf hgn hgb) (λm os dk hdk x y=>?_) hH hlt (by simp;omega) hT).mono ?_
  ·obtain⟨rr,hrr⟩: ∃rr,fg x y=some rr:=Option.ne_none_iff_exists'.1 (htot x y)
   have:=callsF_of_pure hE (hg x y rr hrr) (Go.Proofs.sortWorldK (encI c) k w rg.block rg.base m dk os)
   have hq:cf x y=rr:=by rw[<-hcf];simp[hrr]
   rw[hq]
   simpa using this
  ·rintro e' w' ⟨rfl,n,os,rfl⟩
   have hsl:(l.mergeSort λx y=>!(Go.Proofs.ltOf cf) y x).length=l.length:=hlen
   have hrem:=remade_sim hs (id:=0) (b1:=.cells k ((l.mergeSort λx y=>!(Go.Proofs.ltOf cf) y x).map E)) rfl ho (by intro h;cases h) n
    (Go.Sort.putCells id rg.base (((l.mergeSort λx y=>!(Go.Proofs.ltOf cf) y x).flatMap c).map (Value.int .i64)).toArray) os (λo hoo=>by
     rw[a1]at hoo;cases hoo
     refine holds_structs hE h0 hk (by simp[Go.Sort.putCells,a2]) a3 (by rw[hsl];exact a4) (put_id (by rw[flatC_len hk,hsl,a2];exact a4)))
   have hw:remade w n rg.block (Go.Sort.putCells id rg.base (((l.mergeSort λx y=>!(Go.Proofs.ltOf cf) y x).flatMap c).map (Value.int .i64)).toArray) os=Go.Proofs.sortWorldK (encI c) k w rg.block rg.base n (l.mergeSort λx y=>!(Go.Proofs.ltOf cf) y x).toArray os:=by
    unfold Go.Proofs.sortWorldK putRowK
    rw[flatK_ints h0 hk]
    rfl
   show Gave G _ w _ _ (Go.Proofs.sortWorldK (encI c) k w rg.block rg.base n (l.mergeSort λx y=>!(Go.Proofs.ltOf cf) y x).toArray os)
   rw[<-hw]
   exact⟨.tuple #[],G,.tup [],_,rfl,.tup [] #[] rfl (λi x y hx=>by simp at hx),hrem.1,hrem.2,rfl,rfl⟩
 ·have hl0:l=[]:=List.length_eq_zero_iff.1 (by omega)
  subst hl0
  obtain⟨p,cap,rfl⟩: ∃p cap,v=.slice p 0 cap:=by
   have:=hvv 0 _ v rfl rfl
   generalize hx:AV.ms 0 0 ([]:List α).length=x at this
   cases this with
   |ms id' start len cap r addr ho hle hin haddr=>injection hx with e1 e2 e3;subst e3;exact⟨_,_,rfl⟩
   |msnil id' start cap base hc=>exact⟨_,_,rfl⟩
   |_=>cases hx
  refine(Go.Proofs.AnyF.slices_SortFunc_none L p cap _ w).mono ?_
  rintro e' w' ⟨rfl,rfl⟩
  refine⟨.tuple #[],G,.tup [],_,rfl,.tup [] #[] rfl (λi x y hx=>by simp at hx),hs,.refl _ _ _,rfl,?_⟩
  simp
def lessF{α:Type}(fg:α->α->Option Int)(x y:α):Bool:=decide ((fg x y).getD 0<0)
def insF{α:Type}(fg:α->α->Option Int)(x:α):List α->List α
 | []=>[x]
 |y::r=>bif lessF fg y x then y::insF fg x r else x::y::r
def isortF{α:Type}(fg:α->α->Option Int):List α->List α
 | []=>[]
 |x::r=>insF fg x (isortF fg r)
def chkF{α:Type}[DecidableEq α](fg:α->α->Option Int)(l:List α):Bool:=
 Nat.ble l.length 4194304&&(l.all (λx=>l.all λy=>(fg x y).isSome)&&(l.all (λx=>!lessF fg x x)&&
  (l.all (λx=>l.all λy=>l.all λz=>(!(lessF fg x y&&lessF fg y z)||lessF fg x z)&&(!(!lessF fg x y&&!lessF fg y z)||!lessF fg x z))&&l.all λx=>l.all λy=>lessF fg x y||(lessF fg y x||decide (x=y)))))
def sortF{α:Type}[DecidableEq α](fg:α->α->Option Int)(l:List α):Option (List α):=bif chkF fg l then some (isortF fg l)else none
structure ChkF {α:Type} (fg:α->α->Option Int) (l:List α):Prop where
 len:l.length<=4194304
 tot: ∀x∈l,∀y∈l,(fg x y).isSome=true
 irr: ∀x∈l,lessF fg x x=false
 tra: ∀x∈l,∀y∈l,∀z∈l,lessF fg x y=true->lessF fg y z=true->lessF fg x z=true
 ntr: ∀x∈l,∀y∈l,∀z∈l,lessF fg x y=false->lessF fg y z=false->lessF fg x z=false
 ant: ∀x∈l,∀y∈l,lessF fg x y=false->lessF fg y x=false->x=y
theorem chkF_iff{α:Type}[DecidableEq α]{fg:α->α->Option Int}{l:List α}:chkF fg l=true↔ChkF fg l:=by
 unfold chkF
 simp only[Bool.and_eq_true,List.all_eq_true,Nat.ble_eq,Bool.not_eq_true',Bool.or_eq_true,decide_eq_true_eq]
 constructor
 ·rintro⟨h1,h2,h3,h4,h5⟩
  refine⟨h1,h2,h3,λx hx y hy z hz a b=>?_,λx hx y hy z hz a b=>?_,λx hx y hy a b=>?_⟩
  ·have:=(h4 x hx y hy z hz).1
   simpa[a,b]using this
  ·have:=(h4 x hx y hy z hz).2
   simpa[a,b]using this
  ·have:=h5 x hx y hy
   simpa[a,b]using this
 ·rintro⟨h1,h2,h3,h4,h5,h6⟩
  refine⟨h1,h2,h3,λx hx y hy z hz=>?_,λx hx y hy=>?_⟩
  ·constructor
   ·cases a:lessF fg x y<;>cases b:lessF fg y z<;>simp
    exact h4 x hx y hy z hz a b
   ·cases a:lessF fg x y<;>cases b:lessF fg y z<;>simp
    exact h5 x hx y hy z hz a b
  ·cases a:lessF fg x y<;>cases b:lessF fg y x<;>simp
   exact h6 x hx y hy a b
theorem insF_perm{α:Type}{fg:α->α->Option Int}{x:α}: ∀{l:List α},(insF fg x l).Perm (x::l)
 | []=>.refl _
 |y::r=>by
  unfold insF
  cases lessF fg y x
  ·exact .refl _
  ·exact(insF_perm.cons y).trans (.swap x y r)
theorem isortF_perm{α:Type}{fg:α->α->Option Int}: ∀{l:List α},(isortF fg l).Perm l
 | []=>.refl _
 |x::r=>insF_perm.trans (isortF_perm.cons x)
theorem insF_le{α:Type}{fg:α->α->Option Int}{m:List α}(h:ChkF fg m){x:α}(hx:x∈m): ∀{l:List α},(∀y∈l,y∈m)->l.Pairwise (λa b=>lessF fg b a=false)->(insF fg x l).Pairwise λa b=>lessF fg b a=false
 | [],_,_=>by simp[insF]
 |y::r,hm,hp=>by
  rw[List.pairwise_cons]at hp
  have hy:=hm y (by simp)
  unfold insF
  cases hq:lessF fg y x
  ·simp only[cond_false]
   rw[List.pairwise_cons]
   refine⟨λz hz=>?_,List.pairwise_cons.2 hp⟩
   simp at hz
   rcases hz with rfl|hz
   ·exact hq
   ·exact h.ntr z (hm z (by simp[hz])) y hy x hx (hp.1 z hz) hq
  ·simp only[cond_true]
   rw[List.pairwise_cons]
   refine⟨λz hz=>?_,insF_le h hx (λw hw=>hm w (by simp[hw])) hp.2⟩
   have:=insF_perm.mem_iff.1 hz
   simp at this
   rcases this with rfl|hz
   ·cases hw:lessF fg z y
    ·rfl
    ·have:=h.tra y hy z hx y hy hq hw
     rw[h.irr y hy]at this;cases this
   ·exact hp.1 z hz
theorem isortF_le{α:Type}{fg:α->α->Option Int}{m:List α}(h:ChkF fg m): ∀{l:List α},(∀y∈l,y∈m)->(isortF fg l).Pairwise λa b=>lessF fg b a=false
 | [],_=>by simp[isortF]
 |x::r,hm=>insF_le h (hm x (by simp)) (λy hy=>hm y (by simp[isortF_perm.mem_iff.1 hy])) (isortF_le h λy hy=>hm y (by simp[hy]))
theorem sortF_ok{α:Type}[DecidableEq α]{fg:α->α->Option Int}{l:List α}(h:ChkF fg l): ∃r,sortF fg l=some r/\r.Perm l/\r.Pairwise λa b=>lessF fg b a=false:=
 ⟨isortF fg l,by unfold sortF;rw[chkF_iff.2 h];rfl,isortF_perm,isortF_le h λ_ h=>h⟩
theorem sortf_calls{α:Type}[DecidableEq α]{P:Program}{ρ:Go.Shelf.Ren}(L:Go.Proofs.SlLaysF0.n6 P ρ){k:Nat}(h0:0<k)(aE: ∀w,(isAgg (ρ.t 24)).run P w=.ok true w)(zE: ∀w,(Go.sizeOf (ρ.t 24)).run P w=.ok k w)
  {E : α → AV} (c : α → List Int) (hE : ∀ x, E x = .agg ((c x).map AV.i)) (hk : ∀ x, (c x).length = k) {g : FuncId} {gf : Func} {gc : Code} (hgf : P.funcs[g]? = some gf) (hgn : (gf.name == "runtime.NumGoroutine") = false) (hgb : gf.body = some gc)
  {fg:α->α->Option Int} (hg: ∀x y r,fg x y=some r->APure P g [E x,E y] (.i r)) (l r:List α) (h:sortF fg l=some r):
  ACalls P (ρ.f 6) [.ms 0 0 l.length,.fn g []] ⟨[(0,.cells k (l.map E))],1⟩ λy t=>y=.tup []/\t=⟨[(0,.cells k (r.map E))],1⟩:=by
 unfold sortF at h
 cases hc:chkF fg l with
 |false=>rw[hc]at h;cases h
 |true=>
 rw[hc]at h
 cases h
 have hC:=chkF_iff.1 hc
 have e1:l.attach.map (λx=>E x.1)=l.map E:=by
  have:=congrArg (List.map E) (List.attach_map_subtype_val l)
  rw[List.map_map]at this
  exact this
 let le':=λx y:{x // x∈l}=>!(Go.Proofs.ltOf (λx y:{x // x∈l}=>(fg x.1 y.1).getD 0) y x)
 have hle: ∀x y:{x // x∈l},le' x y=!(lessF fg y.1 x.1):=λ_ _=>rfl
 have hsorted:(l.attach.mergeSort le').Pairwise λx y=>le' x y=true:=List.pairwise_mergeSort (λa b c h1 h2=>by
  rw[hle]at h1 h2 ⊢
  simp only[Bool.not_eq_true']at h1 h2 ⊢
  exact hC.ntr c.1 c.2 b.1 b.2 a.1 a.2 h2 h1) (λa b=>by
  rw[hle,hle]
  cases p:lessF fg a.1 b.1<;>cases q:lessF fg b.1 a.1<;>simp
  have:=hC.tra a.1 a.2 b.1 b.2 a.1 a.2 p q
  rw[hC.irr a.1 a.2]at this;cases this) l.attach
 have hv:(l.attach.mergeSort le').map Subtype.val=isortF fg l:=by
  refine List.Perm.eq_of_pairwise (le:=λa b=>lessF fg b a=false) (λa b ha hb h1 h2=>?_) ?_ (isortF_le hC λ_ h=>h) ?_
  ·obtain⟨x,_,rfl⟩:=List.mem_map.1 ha
   exact hC.ant x.1 x.2 b (isortF_perm.mem_iff.1 hb) h2 h1
  ·rw[List.pairwise_map]
   exact hsorted.imp λ{a b}h=>by rw[hle]at h;simpa using h
  ·refine((List.mergeSort_perm l.attach le').map Subtype.val).trans ?_
   rw[List.attach_map_subtype_val]
   exact isortF_perm.symm
 have e2:(l.attach.mergeSort le').map (λx=>E x.1)=(isortF fg l).map E:=by
  rw[<-hv,List.map_map]
  rfl
 have h2:sortF0 (λx y:{x // x∈l}=>fg x.1 y.1) l.attach=some (l.attach.mergeSort le'):=
  if_pos ⟨λx y e=>(by have h9:=hC.tot _ x.2 _ y.2;have e:fg x.1 y.1=none:=e;rw[e]at h9;cases h9),
   ⟨λx=>hC.irr _ x.2,λx y z=>hC.tra _ x.2 _ y.2 _ z.2,λx y z=>hC.ntr _ x.2 _ y.2 _ z.2⟩,λx y a b=>Subtype.ext (hC.ant _ x.2 _ y.2 a b),by rw[List.length_attach];exact hC.len⟩
 have h3:=sortf_calls0 (E:=λx:{x // x∈l}=>E x.1) L h0 aE zE (λx:{x // x∈l}=>c x.1) (λx=>hE x.1) (λx=>hk x.1) hgf hgn hgb (fg:=λx y:{x // x∈l}=>fg x.1 y.1) (λx y r h=>hg x.1 y.1 r h) _ _ h2
 rw[e1,e2,List.length_attach]at h3
 exact h3
end Go.Am
