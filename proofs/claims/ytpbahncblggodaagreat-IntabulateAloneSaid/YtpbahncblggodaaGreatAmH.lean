/-
  A block of one's own, or a part of it, LENT to a function that computes: for the call it is immutable, and behind it one's own again.
  The answer must be a number or a truth value (so that it cannot name what was lent).
  Own work. No Go text.
-/
import Derived.Test.YtpbahncblggodaaGreatAmG
set_option linter.all false
namespace Go.Am
open Go.RowKit
def bareV:AV->Bool
 |.int _ _=>true
 |.bool _=>true
 |_=>false
theorem bareV_V{G G':Ghost}{x:AV}{v:Value}(hx:bareV x=true)(h:V G x v):V G' x v:=by
 cases x<;>simp[bareV]at hx
 ·cases h;exact .bool _
 ·cases h;exact .int _ _
def Lend(s:St)(args args':List AV):Prop:= ∀G w vs,Sim G s w->VL G args vs-> ∃G',Sim G' ⟨[],s.cnt⟩ w/\VL G' args' vs
theorem acalls_lend{P:Program}{f:FuncId}{args args':List AV}{x:AV}{s:St}(hl:Lend s args args')(hx:bareV x=true)(hf:ACalls P f args' ⟨[],s.cnt⟩ λy t=>y=x/\t=⟨[],s.cnt⟩):
  ACalls P f args s λy t=>y=x/\t=s:=λG w vs hs hv=>by
 obtain⟨G',h1,h2⟩:=hl G w vs hs hv
 refine(hf G' w vs h1 h2).mono ?_
 rintro e w' ⟨v,G2,y,s2,rfl,hV,hS,hE,rfl,rfl⟩
 have hk: ∀b,b<w.heap.size->w'.heap[b]? =w.heap[b]?:=λb hb=>hE.keep b hb (by rintro⟨id,blk,r,hg,_⟩;simp[eget]at hg)
 refine⟨v,G,y,s,rfl,bareV_V hx hV,⟨λb o v hi=>?_,λid blk hg=>?_,hs.apart,hs.clear,hs.fresh,hs.lt⟩,?_,rfl,rfl⟩
 ·have hc:=hs.imm b o v hi
  have hb:=cell_lt hc
  rw[World.cell?_of_block (w:=w) (hk b hb)]
  exact hc
 ·rcases hs.heap id blk hg with⟨r,o,e1,e2,e3⟩|h
  ·refine .inl ⟨r,o,e1,?_,e3⟩
   have hb:r.block<w.heap.size:=by
    rcases Nat.lt_or_ge r.block w.heap.size with h|h
    ·exact h
    ·rw[Array.getElem?_eq_none h]at e2;cases e2
   rw[hk _ hb];exact e2
  ·exact .inr h
 ·exact⟨.refl G,hE.os,hE.tape,hE.output,hE.size,λb hb _=>hk b hb,λ_ _ _ h=>.inl h,λ_ _ h=>.inl h,λ_ _ h=>.inl ⟨_,h⟩,Nat.le_refl _,λ_ h=>h,λ_ _ h=>h,hE.drawn⟩
theorem freeze_all{P:Prop}{G:Ghost}{s:St}{w:World}(hs:Sim G s w): ∀ks:List Nat,∃G' s',Sim G' s' w/\s'.cnt=s.cnt/\GLe G G'/\(∀id b,eget s'.heap id=some b->eget s.heap id=some b)/\(∀id,id ∉ ks->eget s'.heap id=eget s.heap id)/\
  ∀id∈ks,∀esz elems,eget s.heap id=some (.cells esz elems)->(∀start len v,start+len<=elems.length->V G (.ms id start len) v->V G' (.sl false ((elems.drop start).take len)) v)/\ ∀e v,elems=[e]->V G (.mp id 0 0) v->V G' (.ip e.cells) v
 | []=>⟨G,s,hs,rfl,.refl _,λ_ _ h=>h,λ_ _=>rfl,λ_ h=>by cases h⟩
 |i::ks=>by
  obtain⟨G1,s1,h1,hc,hle,hsub,hout,hin⟩:=freeze_all (P:=P) hs ks
  by_cases hi:i∈ks
  ·refine⟨G1,s1,h1,hc,hle,hsub,λid hid=>hout id (λh=>hid (List.mem_cons_of_mem _ h)),λid hid=>?_⟩
   rcases List.mem_cons.1 hid with rfl|h
   ·exact hin _ hi
   ·exact hin _ h
  ·cases hg:eget s1.heap i with
   |none=>
    refine⟨G1,s1,h1,hc,hle,hsub,λid hid=>hout id (λh=>hid (List.mem_cons_of_mem _ h)),λid hid esz elems he=>?_⟩
    rcases List.mem_cons.1 hid with rfl|h
    ·rw[hout _ hi,he]at hg;cases hg
    ·exact hin _ h esz elems he
   |some b=>
    cases b with
    |cells esz elems=>
     obtain⟨G2,h2,h3,h4,h5⟩:=freeze_ms h1 hg (start:=0) (len:=0) (by omega)
     refine⟨G2,_,h2,hc,hle.trans h3.le,λid b hb=>?_,λid hid=>?_,λid hid esz' elems' he=>?_⟩
     ·rw[get_del]at hb
      split at hb
      ·cases hb
      ·exact hsub _ _ hb
     ·have: ¬(id=i\/id∈ks):=λh=>hid (List.mem_cons.2 h)
      rw[get_del,if_neg (λe=>this (.inl e.symm))]
      exact hout _ (λh=>this (.inr h))
     ·rcases List.mem_cons.1 hid with rfl|h
      ·have e:=hsub _ _ hg
       rw[he]at e;cases e
       exact⟨λst n v hn hv=>h4 st n v hn (hv.mono hle),λe v he hv=>h5 e v he (hv.mono hle)⟩
      ·obtain⟨a,b⟩:=hin _ h esz' elems' he
       exact⟨λst n v hn hv=>(a st n v hn hv).mono h3.le,λe v he hv=>(b e v he hv).mono h3.le⟩
    |loop l=>
     refine⟨G1,s1,h1,hc,hle,hsub,λid hid=>hout id (λh=>hid (List.mem_cons_of_mem _ h)),λid hid esz elems he=>?_⟩
     rcases List.mem_cons.1 hid with rfl|h
     ·have e:=hsub _ _ hg
      rw[he]at e;cases e
     ·exact hin _ h esz elems he
    |dfr=>
     refine⟨G1,s1,h1,hc,hle,hsub,λid hid=>hout id (λh=>hid (List.mem_cons_of_mem _ h)),λid hid esz elems he=>?_⟩
     rcases List.mem_cons.1 hid with rfl|h
     ·have e:=hsub _ _ hg
      rw[he]at e;cases e
     ·exact hin _ h esz elems he
mutual
inductive LV (h:List (Nat×Blk)):AV->AV->Prop
 |s {x:AV}:LV h x x
 |p {id esz st n:Nat} {elems:List AV} (hg:eget h id=some (.cells esz elems)) (hn:st+n<=elems.length):LV h (.ms id st n) (.sl false ((elems.drop st).take n))
 |m {id esz:Nat} {e:AV} (hg:eget h id=some (.cells esz [e])):LV h (.mp id 0 0) (.ip e.cells)
 |f {g:FuncId} {xs ys:List AV} (hl:LVL h xs ys):LV h (.fn g xs) (.fn g ys)
inductive LVL (h:List (Nat×Blk)):List AV->List AV->Prop
 |z:LVL h [] []
 |k {x y:AV} {xs ys:List AV} (hx:LV h x y) (hs:LVL h xs ys):LVL h (x::xs) (y::ys)
end
theorem LVL.len{h:List (Nat×Blk)}: ∀{xs ys:List AV},LVL h xs ys->xs.length=ys.length
 |_,_,.z=>rfl
 |_,_,.k _ hs=>by simp[hs.len]
mutual
theorem lv_V{h:List (Nat×Blk)}{G G':Ghost}(hle:GLe G G')
  (hz: ∀id esz elems,eget h id=some (.cells esz elems)->(∀start len v,start+len<=elems.length->V G (.ms id start len) v->V G' (.sl false ((elems.drop start).take len)) v)/\ ∀e v,elems=[e]->V G (.mp id 0 0) v->V G' (.ip e.cells) v):
  ∀{x y:AV},LV h x y-> ∀v,V G x v->V G' y v
 |_,_,.s,v,hv=>hv.mono hle
 |_,_,.p hg hn,v,hv=>(hz _ _ _ hg).1 _ _ _ hn hv
 |_,_,.m hg,v,hv=>(hz _ _ _ hg).2 _ _ rfl hv
 |_,_,.f hl,v,hv=>by
  cases hv with
  |fn _ caps vs hlen hc=>
   refine .fn _ _ vs (by rw[<-hl.len];exact hlen) λi y u hy hu=>?_
   obtain⟨x,h1,h2⟩:=lvl_V hle hz hl i y hy
   exact h2 u (hc i x u h1 hu)
theorem lvl_V{h:List (Nat×Blk)}{G G':Ghost}(hle:GLe G G')
  (hz: ∀id esz elems,eget h id=some (.cells esz elems)->(∀start len v,start+len<=elems.length->V G (.ms id start len) v->V G' (.sl false ((elems.drop start).take len)) v)/\ ∀e v,elems=[e]->V G (.mp id 0 0) v->V G' (.ip e.cells) v):
  ∀{xs ys:List AV},LVL h xs ys-> ∀(i:Nat)y,ys[i]? =some y-> ∃x,xs[i]? =some x/\ ∀v,V G x v->V G' y v
 |_,_,.z,i,y,hy=>by simp at hy
 |_,_,.k hx hs,0,y,hy=>by
  simp at hy;subst hy;exact⟨_,rfl,lv_V hle hz hx⟩
 |_,_,.k hx hs,i+1,y,hy=>by
  simp at hy
  obtain⟨x,h1,h2⟩:=lvl_V hle hz hs i y hy
  exact⟨x,by simpa using h1,h2⟩
end
theorem Lend.all{s:St}{h:List (Nat×Blk)}(hh: ∀id b,eget h id=some b->eget s.heap id=some b){args args':List AV}(hl:LVL h args args'):Lend s args args':=λG w vs hs hv=>by
 obtain⟨G',s',h1,h2,h3,h4,h5,h6⟩:=freeze_all (P:=True) hs (h.map Prod.fst)
 refine⟨G',h1.drop (λi b hi=>by simp[eget]at hi) (by rw[h2];exact Nat.le_refl _),by rw[<-hl.len];exact hv.1,λi y u hy hu=>?_⟩
 have hin: ∀(h:List (Nat×Blk))(id esz:Nat)(elems:List AV),eget h id=some (.cells esz elems)->id∈h.map Prod.fst:=by
  intro h id esz elems
  induction h with
  |nil=>intro e;simp[egetN]at e
  |cons p r ih=>
   obtain⟨k,b⟩:=p
   intro e
   simp only[egetC]at e
   split at e
   ·rename_i hk;subst hk;simp
   ·exact List.mem_cons_of_mem _ (ih e)
 obtain⟨x,e1,e2⟩:=lvl_V (G':=G') h3 (λid esz elems hg=>h6 id (hin h id esz elems hg) esz elems (hh _ _ hg)) hl i y hy
 exact e2 u (hv.2 i x u e1 hu)
section
variable {B:Tab} {P:Program} {N:Nat} {ρ:Option Nat} {Q:Exit->Env->St->Prop} {M:TM B.S} {α β:Type} {r:β}
theorem callArgs_okL{op:Op}{env:TEnv B.S}{g:FuncId}{l:List AV}{x:AV}{s:St}{K:AV->St->Prop}(h:callArgs B P op env=some (g,l))(hp:ACalls P g l s λy t=>y=x/\t=s)(hk:K x s):ows P op K (erE B env) s:=by
 unfold callArgs at h
 unfold ows
 split at h
 ·rename_i f a hc
  split at h
  ·rename_i g' caps hf
   split at h
   ·rename_i l' hl
    cases he:enters P g' with
    |false=>simp[he]at h
    |true=>
     simp only[he,cond_true]at h
     cases h
     simp only[hc,toper_ok,hf,Option.map_some,topers_ok,hl,TV.er]
     refine⟨he,?_⟩
     rw[erL_append]at hp
     exact hp.mono λy t ⟨e1,e2⟩=>by subst e1;subst e2;exact hk
   ·cases h
  ·cases h
 ·cases h
theorem callA_okL{g:FuncId}{l:List AV}{v:TV B.S}(h:callA B P M=some (g,l))(hp:ACalls P g l (erS B M.s) λy t=>y=v.er B.E/\t=erS B M.s)(hk:RT0 B P N ρ Q (tcK M v)):RT0 B P N ρ Q M:=by
 obtain⟨o,k,env,s⟩:=M
 unfold callA at h
 split at h
 ·rename_i l0 y ho
  simp only at ho;subst ho
  split at h
  ·rename_i i l1
   split at h
   ·rename_i hg
    show gws _ _ _ _
    refine gdT_ok (B:=B) ?_
    simp only at hg
    rw[hg]
    have hk:rwsO P (YK P N ρ Q k y) l1 (erE B (eputT i.dst v env)) (erS B s):=hk
    rw[eput_er]at hk
    exact .inl (callArgs_okL h hp hk)
   ·cases h
  ·cases h
 ·rename_i l0 n y ho
  simp only at ho;subst ho
  split at h
  ·rename_i j c i sl l1
   split at h
   ·rename_i hg
    split at h
    ·rename_i hc
     intro hn
     show gwq _ _ _ _
     refine gdT_okq (B:=B) ?_
     simp only at hg
     rw[hg]
     have hk:dq P (YK P N ρ Q k y) l1 (erN B n) (erE B (eputT i.dst v env)) (erS B s):=hk hn
     rw[eput_er]at hk
     have:=callArgs_okL (K:=λv s'=>chkD P (erN B n) s' c/\dq P (YK P N ρ Q k y) l1 (erN B n) (eput i.dst v (erE B env)) s') (s:=erS B s) h hp ⟨chkT_ok hn (λ_=>hn) hc (λp hp=>by cases hp),hk⟩
     rw[envOf_er]at this
     exact this
    ·cases h
   ·cases h
  ·cases h
 ·cases h
mutual
inductive LE1 (B:Tab) (z:List (Nat×TB B.S)):TV B.S->TV B.S->Prop
 |s {x:TV B.S}:LE1 B z x x
 |p {id sz c st n:Nat} {xs:List (B.S c)} (hg:eget z id=some (.lz sz c xs)) (hn:st+n<=xs.length):LE1 B z (.a (.ms id st n)) (.l false c ((xs.drop st).take n))
 |q {id sz c st n:Nat} {xs:List (B.S c)} (hg:eget z id=some (.lz sz c xs)) (hn:st+n<=xs.length):LE1 B z (.pt id st n) (.l false c ((xs.drop st).take n))
 |w {id sz c n:Nat} {xs:List (B.S c)} (hg:eget z id=some (.lz sz c xs)) (hn:n=xs.length):LE1 B z (.a (.ms id 0 n)) (.l false c xs)
 |m {id sz:Nat} {x:TV B.S} {l:List (TV B.S)} (hg:eget z id=some (.els sz [x])) (hl:erL B.E l=(x.er B.E).cells):LE1 B z (.a (.mp id 0 0)) (.ip l)
 |f {g:FuncId} {xs ys:List (TV B.S)} (hl:LEL B z xs ys):LE1 B z (.fn g xs) (.fn g ys)
inductive LEL (B:Tab) (z:List (Nat×TB B.S)):List (TV B.S)->List (TV B.S)->Prop
 |z:LEL B z [] []
 |k {x y:TV B.S} {xs ys:List (TV B.S)} (hx:LE1 B z x y) (hs:LEL B z xs ys):LEL B z (x::xs) (y::ys)
end
mutual
theorem le_er{z:List (Nat×TB B.S)}: ∀{x y:TV B.S},LE1 B z x y->LV (erH B z) (x.er B.E) (y.er B.E)
 |_,_,.s=>.s
 |_,_,@LE1.p _ _ id sz c st n xs hg hn=>by
  simp only[TV.er,List.map_take,List.map_drop]
  exact .p (by rw[get_erH,hg];rfl) (by simpa using hn)
 |_,_,@LE1.q _ _ id sz c st n xs hg hn=>by
  simp only[TV.er,List.map_take,List.map_drop]
  exact .p (by rw[get_erH,hg];rfl) (by simpa using hn)
 |_,_,@LE1.w _ _ id sz c n xs hg hn=>by
  simp only[TV.er]
  have:=LV.p (h:=erH B z) (st:=0) (n:=(xs.map (B.E c)).length) (by rw[get_erH,hg];rfl) (Nat.le_of_eq (Nat.zero_add _))
  rw[List.drop_zero,List.take_length,List.length_map]at this
  rw[hn];exact this
 |_,_,.m hg hl=>by
  simp only[TV.er]
  rw[hl]
  exact .m (by rw[get_erH,hg];rfl)
 |_,_,.f hl=>by
  simp only[TV.er]
  exact .f (lel_er hl)
theorem lel_er{z:List (Nat×TB B.S)}: ∀{xs ys:List (TV B.S)},LEL B z xs ys->LVL (erH B z) (erL B.E xs) (erL B.E ys)
 |_,_,.z=>.z
 |_,_,.k hx hs=>.k (le_er hx) (lel_er hs)
end
theorem tCallM{o:Option α}{K:α->Option β}{g:FuncId}{X:α->TV B.S}(z:List (Nat×TB B.S))(args args':List (TV B.S))(hl:LEL B z args args')(h:o.bind K=some r)
  (hf: ∀a,o=some a->TPure B P g args' X a) (k: ∀a,o=some a->K a=some r->RT B P N ρ Q (tcK (G B P N M).1 (X a)))
  (hb: ∀a,bareV ((X a).er B.E)=true:=by intro a;kernel_rfl)
  (hx:(callA B P (G B P N M).1,hasZ (G B P N M).1.s.heap z,(G B P N M).2.map Prod.fst)=(some (g,erL B.E args),z.map (λp=>some p.2),(G B P N M).2.map Prod.snd):=by kernel_rfl):RT B P N ρ Q M:=by
 simp only[Prod.mk.injEq]at hx
 obtain⟨h1,h2,h3⟩:=hx
 obtain⟨a,ha,hK⟩:=bindE h
 refine G_ok h3 ⟨callA_okL h1 ?_ (k a ha hK).v⟩
 have hp:APure P g (erL B.E args') ((X a).er B.E):=hf a ha
 refine acalls_lend (Lend.all (h:=erH B z) (λid b hg=>?_) (lel_er hl)) (hb a) (hp _)
 have h4: ∃b',eget z id=some b'/\erB B b'=b:=by
  rw[get_erH]at hg
  cases hz:eget z id with
  |none=>rw[hz]at hg;cases hg
  |some b'=>rw[hz]at hg;cases hg;exact⟨b',rfl,rfl⟩
 obtain⟨b',e1,e2⟩:=h4
 have h5:(id,b')∈z:=by
  clear h2 hl hf hg
  induction z with
  |nil=>simp[egetN]at e1
  |cons p r ih=>
   obtain⟨k,c⟩:=p
   simp only[egetC]at e1
   split at e1
   ·rename_i hk;cases hk;cases e1;exact List.mem_cons_self ..
   ·exact List.mem_cons_of_mem _ (ih e1)
 have h6:=hasZ_ok h2 _ h5
 show eget (erH B _++erR B _) id=_
 rw[eget_app,get_erH,h6]
 simp[e2]
theorem see_cut{N:Nat}{ρ:Option Nat}{env:Env}{s:St}{id esz n:Nat}{xs:List AV}(hg:eget s.heap id=some (.cells esz xs))(hc:cleanL xs=true):
  See N ρ s.cnt env ⟨eset s.heap id (.cells esz (xs.take n)),s.cnt⟩ env s:=λhb h0 hx hn=>
 see_adds (N:=N) (ρ:=ρ) (env:=env) (π:=λi=>i) (s:=s) (S2:=⟨eset s.heap id (.cells esz (xs.take n)),s.cnt⟩) ⟨λi b h=>by
   rw[get_set]at h
   split at h
   ·rename_i e;subst e;cases h
    refine⟨_,hg,.inr ?_⟩
    conv=>rhs;rw[<-List.take_append_drop n xs]
    exact .cut (.r (cleanL_iff.2 λx hx=>cleanL_iff.1 hc x (List.mem_of_mem_take hx)))
   ·exact⟨b,h,.inl rfl⟩,λ_ _=>rfl,λ_ _ _ _ _ _ h=>h,λi b h=>by
   rw[get_set]at h
   split at h
   ·rename_i e;subst e;exact hn.sim.lt _ _ hg
   ·exact hn.sim.lt _ _ h,Nat.le_refl _,λi h=>by
   rw[get_set]
   split
   ·rename_i e;subst e;rw[hg]at h;cases h
   ·exact h⟩ hb h0 hx hn
theorem tCt(rid id sz c:Nat)(xs:List (B.S c))(n:Nat)(k:RT B P N ρ Q (setB B id (.lz sz c (xs.take n)) (toReg B P N rid M).1))
  (hx:(isOut (toReg B P N rid M).1.o,eget (toReg B P N rid M).1.s.heap id,(toReg B P N rid M).2.map Prod.fst)=(true,some (.lz sz c xs),(toReg B P N rid M).2.map Prod.snd):=by kernel_rfl):RT B P N ρ Q M:=by
 simp only[Prod.mk.injEq]at hx
 obtain⟨h1,h2,h3⟩:=hx
 refine⟨goT_ok (pairs_ok h3) ?_⟩
 have k:=k.v
 unfold setB at k
 revert h1 h2 k
 show _->_->_->RT0 B P N ρ Q (toReg B P N rid M).1
 generalize(toReg B P N rid M).1=g
 intro h1 h2 k
 obtain⟨o,kk,env,s⟩:=g
 have hg:eget (erH B s.heap) id=some (.cells sz (xs.map (B.E c))):=by rw[get_erH,h2];rfl
 have e1:erR B (eset s.heap id (.lz sz c (xs.take n)))=erR B s.heap:=erR_same h2 rfl
 have e:erS B ⟨eset s.heap id (.lz sz c (xs.take n)),s.cnt⟩=⟨eset (erS B s).heap id (.cells sz ((xs.map (B.E c)).take n)),(erS B s).cnt⟩:=by
  simp only[erS,set_erH]
  rw[e1,eset_app hg,<-List.map_take]
  rfl
 refine rt_see h1 (S2:=⟨eset s.heap id (.lz sz c (xs.take n)),s.cnt⟩) ?_ k
 rw[e]
 have hg2:eget (erS B s).heap id=some (.cells sz (xs.map (B.E c))):=by
  show eget (erH B s.heap++erR B s.heap) id=_
  rw[eget_app,hg]
 intro G0 s0 w0 G w a hb h0 hx hn
 exact see_cut hg2 (cleanMap _ _ (B.hc c)) hb h0 hx hn
theorem see_fz{N:Nat}{ρ:Option Nat}{env E2:Env}{s S2:St}{id esz:Nat}{elems:List AV}(hg:eget s.heap id=some (.cells esz elems))
  (hE: ∀t x,eget E2 t=some x-> ∃y,eget env t=some y/\Fz id elems x y) (hS: ∀i b,eget S2.heap i=some b->i≠id/\ ∃b',eget s.heap i=some b'/\FzB id elems b b') (hc:S2.cnt=s.cnt)
  (hd: ∀i,eget s.heap i=some .dfr->eget S2.heap i=some .dfr):See N ρ s.cnt E2 S2 env s:=by
 intro G0 s0 w0 G w a hb0 h00 hx0 hn
 obtain⟨G',h1,h2,h3⟩:=freeze_ms hn.sim (start:=0) (len:=0) hg (Nat.zero_le _)
 have del: ∀{i b},i≠id->eget s.heap i=some b->eget (edel s.heap id) i=some b:=λ{i b}hne hb=>by
  rw[get_del,if_neg (λe=>hne e.symm)];exact hb
 have hsim:Sim G' S2 w:=⟨h1.imm,λi b hi=>by
   obtain⟨hne,b',hb',hf⟩:=hS i b hi
   rcases h1.heap i b' (del hne hb')with⟨r,o,e1,e2,_⟩|⟨e1,sz,h0,e2⟩
   ·refine .inl ⟨r,o,e1,e2,?_⟩
    rcases hn.sim.heap i b' hb' with⟨r',o',q1,q2,q3⟩|⟨q1,_,_,q2⟩
    ·rw[h2.le.own _ _ q1]at e1;cases e1
     rw[e2]at q2;cases q2
     exact hf.holds h2.le h3 q3
    ·rw[h2.stay i (hn.sim.lt _ _ hb') q1]at e1;cases e1
   ·refine .inr ⟨e1,sz,h0,?_⟩
    subst e2
    cases hf with
    |r=>rfl
    |cells hl=>
     rename_i xs
     have:xs=[]:=List.eq_nil_of_length_eq_zero (by simpa using hl.length)
     rw[this],
  λi i' b b' r r' g1 g2=>by
   obtain⟨n1,c1,k1,_⟩:=hS i b g1
   obtain⟨n2,c2,k2,_⟩:=hS i' b' g2
   exact h1.apart i i' c1 c2 r r' (del n1 k1) (del n2 k2),
  λi b r o g1=>by
   obtain⟨n1,c1,k1,_⟩:=hS i b g1
   exact h1.clear i c1 r o (del n1 k1),
  λi hi=>h1.fresh i (by rw[hc]at hi;exact hi),
  λi b g1=>by
   obtain⟨n1,c1,k1,_⟩:=hS i b g1
   rw[hc];exact hn.sim.lt i c1 k1⟩
 have hext:Ext G s w G' S2 w:=⟨h2.le,rfl,rfl,rfl,Nat.le_refl _,λ_ _ _=>rfl,h2.immNew,h2.ownNew,λi b g1=>by
   obtain⟨n1,c1,k1,_⟩:=hS i b g1
   exact .inl ⟨c1,k1⟩,by rw[hc];exact Nat.le_refl _,hd,h2.stay,h2.drawn⟩
 refine⟨G',⟨hsim,λt' x hx=>?_,hn.size,hn.defs.ext hext,hn.known.le h2.le⟩,hx0.trans h00 hext⟩
 obtain⟨y,hy,hf⟩:=hE t' x hx
 obtain⟨q1,q2⟩:=hn.env _ _ hy
 exact⟨q1,hf.V h2.le h3 q2⟩
theorem rt_seeE{o:TO B.S}{k:List Fr}{E2 env:TEnv B.S}{S2 s:TSt B.S}(ho:isOut o=true)(h:See N ρ s.cnt (erE B E2) (erS B S2) (erE B env) (erS B s))(hk:RT0 B P N ρ Q ⟨o,k,E2,S2⟩):RT0 B P N ρ Q ⟨o,k,env,s⟩:=by
 cases o<;>simp only[isOut]at ho<;>first|(cases ho;done)|skip
 ·have hk:RW0 P N ρ Q ⟨.run _,k,erE B E2,erS B S2⟩:=hk
  exact rw_see (base:=s.cnt) (Nat.le_refl _) h hk
 ·have hk:RW0 P N ρ Q ⟨.out _,k,erE B E2,erS B S2⟩:=hk
  exact rw_see (base:=s.cnt) (Nat.le_refl _) h hk
theorem fzM_okO{id:Nat}{M:TM B.S}(ho:isOut M.o=true)(hd:fzOk B id M.s=true)(hq: ∀p∈(fzM id M).2,p.1=p.2)(h:RT0 B P N ρ Q (fzM id M).1):RT0 B P N ρ Q M:=by
 obtain⟨o,k,env,s⟩:=M
 simp only[fzOk,Bool.and_eq_true]at hd
 obtain⟨⟨hd,hw⟩,hdel⟩:=hd
 unfold fzM at hq h
 split at hq
 ·rename_i l len p hf
  rw[hf]at h
  obtain⟨esz,elems,hg,hl,hn,hp⟩:=frOf_ok hf
  have hfx: ∀x:TV B.S,(∀q∈(fzx id l len p 4 x).2,q.1=q.2)->Fz id elems ((fzx id l len p 4 x).1.er B.E) (x.er B.E):=λx=>fzx_ok hp hl hn
  have h:RT0 B P N ρ Q ⟨o,k,(fzEnv (fzx id l len p 4) env).1,⟨(fzHp id (fzx id l len p 4) s.heap).1,s.cnt⟩⟩:=h
  have h1:=fzEnv_ok hfx (env:=env) λp hp=>hq p (List.mem_append_left _ hp)
  have h2:=fzHp_ok (id:=id) hfx (h:=s.heap) λp hp=>hq p (List.mem_append_right _ hp)
  refine rt_seeE ho (λ{G0 s0 w0 G w a}a1 a2 a3 a4=>see_fz (S2:=erS B ⟨(fzHp id (fzx id l len p 4) s.heap).1,s.cnt⟩) hg h1 ?_ rfl (λi e=>absurd e (noDfr_iff (noDT_ok (n:=s.cnt) hd) i)) a1 a2 a3 a4) h
  intro i b hb
  simp only[erS,fzHp_R hdel]at hb
  rw[eget_app]at hb
  split at hb
  ·rename_i x hx
   cases hb
   obtain⟨g1,b',g2,g3⟩:=h2 i _ hx
   exact⟨g1,b',by simp only[erS];rw[eget_app,g2],g3⟩
  ·obtain⟨w,b',g1,g2⟩:=wf_get hw hb
   refine⟨λe=>?_,b,wf_row hw g1 g2,.r _⟩
   subst e
   obtain⟨f1,f2⟩:=erR1_in g2
   rw[delOk_fr hdel g1 f1]at f2;cases f2
 ·have:=hq (.any,.nilp) (by simp);cases this
theorem tZo(rid id:Nat)(k:RT B P N ρ Q (fzM id (toReg B P N rid M).1).1)
  (hx:(isOut (toReg B P N rid M).1.o,fzOk B id (toReg B P N rid M).1.s,(toReg B P N rid M).2.map Prod.fst,(fzM id (toReg B P N rid M).1).2.map Prod.fst)=(true,true,(toReg B P N rid M).2.map Prod.snd,(fzM id (toReg B P N rid M).1).2.map Prod.snd):=by kernel_rfl):RT B P N ρ Q M:=by
 simp only[Prod.mk.injEq]at hx
 obtain⟨h1,h2,h3,h4⟩:=hx
 exact⟨goT_ok (pairs_ok h3) (fzM_okO h1 h2 (pairs_ok h4) k.v)⟩
theorem tCallS3{α' α'':Type}{o:Option (α⊕(α'⊕α''))}{K:α->Option β}{K':α'->Option β}{K'':α''->Option β}{g:FuncId}{args0:List (TV B.S)}{H0:TSt B.S}{X:α->TV B.S}{X':α'->TV B.S}{X'':α''->TV B.S}{H1:α->TSt B.S}{H1':α'->TSt B.S}{H1'':α''->TSt B.S}(h:o.bind (Sum.elim K (Sum.elim K' K''))=some r)
  (hf: ∀a,o=some a->TCall B P g args0 H0 (Sum.elim X (Sum.elim X' X'')) (Sum.elim H1 (Sum.elim H1' H1'')) a)
  (k: ∀a,o=some (.inl a)->K a=some r->RT B P N ρ Q (tcKH B (G B P N M).1 (callH B args0 H0 (X a) (H1 a) (aOf (callTA B P (G B P N M).1)) (G B P N M).1.s).1 (callH B args0 H0 (X a) (H1 a) (aOf (callTA B P (G B P N M).1)) (G B P N M).1.s).2.1))
  (k': ∀a,o=some (.inr (.inl a))->K' a=some r->RT B P N ρ Q (tcKH B (G B P N M).1 (callH B args0 H0 (X' a) (H1' a) (aOf (callTA B P (G B P N M).1)) (G B P N M).1.s).1 (callH B args0 H0 (X' a) (H1' a) (aOf (callTA B P (G B P N M).1)) (G B P N M).1.s).2.1))
  (k'': ∀a,o=some (.inr (.inr a))->K'' a=some r->RT B P N ρ Q (tcKH B (G B P N M).1 (callH B args0 H0 (X'' a) (H1'' a) (aOf (callTA B P (G B P N M).1)) (G B P N M).1.s).1 (callH B args0 H0 (X'' a) (H1'' a) (aOf (callTA B P (G B P N M).1)) (G B P N M).1.s).2.1))
  (hx: ∀a,(gOf (callTA B P (G B P N M).1),(callH B args0 H0 (X a) (H1 a) (aOf (callTA B P (G B P N M).1)) (G B P N M).1.s).2.2.map Prod.fst,(chkH B P (G B P N M).1 (callH B args0 H0 (X a) (H1 a) (aOf (callTA B P (G B P N M).1)) (G B P N M).1.s).2.1).map Prod.fst,(G B P N M).2.map Prod.fst)=
   (some g,(callH B args0 H0 (X a) (H1 a) (aOf (callTA B P (G B P N M).1)) (G B P N M).1.s).2.2.map Prod.snd,(chkH B P (G B P N M).1 (callH B args0 H0 (X a) (H1 a) (aOf (callTA B P (G B P N M).1)) (G B P N M).1.s).2.1).map Prod.snd,(G B P N M).2.map Prod.snd):=by intro a;kernel_rfl)
  (hx': ∀a,(gOf (callTA B P (G B P N M).1),(callH B args0 H0 (X' a) (H1' a) (aOf (callTA B P (G B P N M).1)) (G B P N M).1.s).2.2.map Prod.fst,(chkH B P (G B P N M).1 (callH B args0 H0 (X' a) (H1' a) (aOf (callTA B P (G B P N M).1)) (G B P N M).1.s).2.1).map Prod.fst,(G B P N M).2.map Prod.fst)=
   (some g,(callH B args0 H0 (X' a) (H1' a) (aOf (callTA B P (G B P N M).1)) (G B P N M).1.s).2.2.map Prod.snd,(chkH B P (G B P N M).1 (callH B args0 H0 (X' a) (H1' a) (aOf (callTA B P (G B P N M).1)) (G B P N M).1.s).2.1).map Prod.snd,(G B P N M).2.map Prod.snd):=by intro a;kernel_rfl)
  (hx'': ∀a,(gOf (callTA B P (G B P N M).1),(callH B args0 H0 (X'' a) (H1'' a) (aOf (callTA B P (G B P N M).1)) (G B P N M).1.s).2.2.map Prod.fst,(chkH B P (G B P N M).1 (callH B args0 H0 (X'' a) (H1'' a) (aOf (callTA B P (G B P N M).1)) (G B P N M).1.s).2.1).map Prod.fst,(G B P N M).2.map Prod.fst)=
   (some g,(callH B args0 H0 (X'' a) (H1'' a) (aOf (callTA B P (G B P N M).1)) (G B P N M).1.s).2.2.map Prod.snd,(chkH B P (G B P N M).1 (callH B args0 H0 (X'' a) (H1'' a) (aOf (callTA B P (G B P N M).1)) (G B P N M).1.s).2.1).map Prod.snd,(G B P N M).2.map Prod.snd):=by intro a;kernel_rfl):RT B P N ρ Q M:=by
 obtain⟨a,ha,hK⟩:=bindE h
 cases a with
 |inl a=>
  have hfa:TCall B P g args0 H0 X H1 a:=hf (.inl a) ha
  exact callHv hfa (k a ha hK) (hx a)
 |inr a=>cases a with
  |inl a=>
   have hfa:TCall B P g args0 H0 X' H1' a:=hf (.inr (.inl a)) ha
   exact callHv hfa (k' a ha hK) (hx' a)
  |inr a=>
   have hfa:TCall B P g args0 H0 X'' H1'' a:=hf (.inr (.inr a)) ha
   exact callHv hfa (k'' a ha hK) (hx'' a)
theorem tCallYS3{α' α'':Type}{o:Option (α⊕(α'⊕α''))}{K:α->Option β}{K':α'->Option β}{K'':α''->Option β}{id0:Nat}{args0:List (TV B.S)}{H0:TSt B.S}{X:α->TV B.S}{X':α'->TV B.S}{X'':α''->TV B.S}{H1:α->TSt B.S}{H1':α'->TSt B.S}{H1'':α''->TSt B.S}(h:o.bind (Sum.elim K (Sum.elim K' K''))=some r)
  (hf: ∀a,o=some a->TYld B P id0 args0 H0 (Sum.elim X (Sum.elim X' X'')) (Sum.elim H1 (Sum.elim H1' H1'')) a)
  (k: ∀a,o=some (.inl a)->K a=some r->RT B P N ρ Q (tcKH B (G B P N M).1 (atY B id0 args0 H0 (X a) (H1 a) (G B P N M).1).1 (atY B id0 args0 H0 (X a) (H1 a) (G B P N M).1).2.1))
  (k': ∀a,o=some (.inr (.inl a))->K' a=some r->RT B P N ρ Q (tcKH B (G B P N M).1 (atY B id0 args0 H0 (X' a) (H1' a) (G B P N M).1).1 (atY B id0 args0 H0 (X' a) (H1' a) (G B P N M).1).2.1))
  (k'': ∀a,o=some (.inr (.inr a))->K'' a=some r->RT B P N ρ Q (tcKH B (G B P N M).1 (atY B id0 args0 H0 (X'' a) (H1'' a) (G B P N M).1).1 (atY B id0 args0 H0 (X'' a) (H1'' a) (G B P N M).1).2.1))
  (hx: ∀a,((callYA B (G B P N M).1).isSome,(atY B id0 args0 H0 (X a) (H1 a) (G B P N M).1).2.2.map Prod.fst,(chkH B P (G B P N M).1 (atY B id0 args0 H0 (X a) (H1 a) (G B P N M).1).2.1).map Prod.fst,(G B P N M).2.map Prod.fst)=
   (true,(atY B id0 args0 H0 (X a) (H1 a) (G B P N M).1).2.2.map Prod.snd,(chkH B P (G B P N M).1 (atY B id0 args0 H0 (X a) (H1 a) (G B P N M).1).2.1).map Prod.snd,(G B P N M).2.map Prod.snd):=by intro a;kernel_rfl)
  (hx': ∀a,((callYA B (G B P N M).1).isSome,(atY B id0 args0 H0 (X' a) (H1' a) (G B P N M).1).2.2.map Prod.fst,(chkH B P (G B P N M).1 (atY B id0 args0 H0 (X' a) (H1' a) (G B P N M).1).2.1).map Prod.fst,(G B P N M).2.map Prod.fst)=
   (true,(atY B id0 args0 H0 (X' a) (H1' a) (G B P N M).1).2.2.map Prod.snd,(chkH B P (G B P N M).1 (atY B id0 args0 H0 (X' a) (H1' a) (G B P N M).1).2.1).map Prod.snd,(G B P N M).2.map Prod.snd):=by intro a;kernel_rfl)
  (hx'': ∀a,((callYA B (G B P N M).1).isSome,(atY B id0 args0 H0 (X'' a) (H1'' a) (G B P N M).1).2.2.map Prod.fst,(chkH B P (G B P N M).1 (atY B id0 args0 H0 (X'' a) (H1'' a) (G B P N M).1).2.1).map Prod.fst,(G B P N M).2.map Prod.fst)=
   (true,(atY B id0 args0 H0 (X'' a) (H1'' a) (G B P N M).1).2.2.map Prod.snd,(chkH B P (G B P N M).1 (atY B id0 args0 H0 (X'' a) (H1'' a) (G B P N M).1).2.1).map Prod.snd,(G B P N M).2.map Prod.snd):=by intro a;kernel_rfl):RT B P N ρ Q M:=by
 obtain⟨a,ha,hK⟩:=bindE h
 cases a with
 |inl a=>
  have hfa:TYld B P id0 args0 H0 X H1 a:=hf (.inl a) ha
  exact callYv hfa (k a ha hK) (hx a)
 |inr a=>cases a with
  |inl a=>
   have hfa:TYld B P id0 args0 H0 X' H1' a:=hf (.inr (.inl a)) ha
   exact callYv hfa (k' a ha hK) (hx' a)
  |inr a=>
   have hfa:TYld B P id0 args0 H0 X'' H1'' a:=hf (.inr (.inr a)) ha
   exact callYv hfa (k'' a ha hK) (hx'' a)
theorem tRFS3{α' α'':Type}{o:Option (α⊕(α'⊕α''))}{K:α->Option β}{K':α'->Option β}{K'':α''->Option β}{gf:FuncId}{args0:List (TV B.S)}{H0:TSt B.S}{X:α->TV B.S}{X':α'->TV B.S}{X'':α''->TV B.S}{H1:α->TSt B.S}{H1':α'->TSt B.S}{H1'':α''->TSt B.S}(h:o.bind (Sum.elim K (Sum.elim K' K''))=some r)(live:List Nat)(c:Nat)
  (hf: ∀a,o=some a->TCall B P gf args0 H0 (Sum.elim X (Sum.elim X' X'')) (Sum.elim H1 (Sum.elim H1' H1'')) a)
  (k: ∀a,o=some (.inl a)->K a=some r->RT B P N ρ Q (rfK ρ live (G B P N M).1 (rfC B P N ρ live c args0 H0 (X a) (H1 a) (G B P N M).1).2.1))
  (k': ∀a,o=some (.inr (.inl a))->K' a=some r->RT B P N ρ Q (rfK ρ live (G B P N M).1 (rfC B P N ρ live c args0 H0 (X' a) (H1' a) (G B P N M).1).2.1))
  (k'': ∀a,o=some (.inr (.inr a))->K'' a=some r->RT B P N ρ Q (rfK ρ live (G B P N M).1 (rfC B P N ρ live c args0 H0 (X'' a) (H1'' a) (G B P N M).1).2.1))
  (hx: ∀a,(rfF (rfA P N live (G B P N M).1),rfL ρ (G B P N M).1.s&&(rfE ((G B P N M).1.s.cnt+rfN ρ) (rfC B P N ρ live c args0 H0 (X a) (H1 a) (G B P N M).1).2.1).isSome,(rfC B P N ρ live c args0 H0 (X a) (H1 a) (G B P N M).1).2.2.map Prod.fst,(G B P N M).2.map Prod.fst)=
   (some (gf,B.C c),true,(rfC B P N ρ live c args0 H0 (X a) (H1 a) (G B P N M).1).2.2.map Prod.snd,(G B P N M).2.map Prod.snd):=by intro a;kernel_rfl)
  (hx': ∀a,(rfF (rfA P N live (G B P N M).1),rfL ρ (G B P N M).1.s&&(rfE ((G B P N M).1.s.cnt+rfN ρ) (rfC B P N ρ live c args0 H0 (X' a) (H1' a) (G B P N M).1).2.1).isSome,(rfC B P N ρ live c args0 H0 (X' a) (H1' a) (G B P N M).1).2.2.map Prod.fst,(G B P N M).2.map Prod.fst)=
   (some (gf,B.C c),true,(rfC B P N ρ live c args0 H0 (X' a) (H1' a) (G B P N M).1).2.2.map Prod.snd,(G B P N M).2.map Prod.snd):=by intro a;kernel_rfl)
  (hx'': ∀a,(rfF (rfA P N live (G B P N M).1),rfL ρ (G B P N M).1.s&&(rfE ((G B P N M).1.s.cnt+rfN ρ) (rfC B P N ρ live c args0 H0 (X'' a) (H1'' a) (G B P N M).1).2.1).isSome,(rfC B P N ρ live c args0 H0 (X'' a) (H1'' a) (G B P N M).1).2.2.map Prod.fst,(G B P N M).2.map Prod.fst)=
   (some (gf,B.C c),true,(rfC B P N ρ live c args0 H0 (X'' a) (H1'' a) (G B P N M).1).2.2.map Prod.snd,(G B P N M).2.map Prod.snd):=by intro a;kernel_rfl):RT B P N ρ Q M:=by
 obtain⟨a,ha,hK⟩:=bindE h
 cases a with
 |inl a=>
  have hfa:TCall B P gf args0 H0 X H1 a:=hf (.inl a) ha
  exact rfv live c hfa (k a ha hK) (hx a)
 |inr a=>cases a with
  |inl a=>
   have hfa:TCall B P gf args0 H0 X' H1' a:=hf (.inr (.inl a)) ha
   exact rfv live c hfa (k' a ha hK) (hx' a)
  |inr a=>
   have hfa:TCall B P gf args0 H0 X'' H1'' a:=hf (.inr (.inr a)) ha
   exact rfv live c hfa (k'' a ha hK) (hx'' a)
end
def Wk(G:Ghost)(x y:AV):Prop:=(y.scalar=true->x.scalar=true)/\(∀v,V G y v->V G x v)/\x.cells.length=y.cells.length/\
 ∀(k:Nat)a b,x.cells[k]? =some a->y.cells[k]? =some b->(b.scalar=true->a.scalar=true)/\ ∀v,V G b v->V G a v
theorem Wk.refl{G:Ghost}(x:AV):Wk G x x:=⟨id,λ_ h=>h,rfl,λk a b h1 h2=>by rw[h1]at h2;cases h2;exact⟨id,λ_ h=>h⟩⟩
theorem Wk.one{G:Ghost}{x y:AV}(hx:x.cells=[x])(hy:y.cells=[y])(h1:y.scalar=true->x.scalar=true)(h2: ∀v,V G y v->V G x v):Wk G x y:=⟨h1,h2,by rw[hx,hy];rfl,λk a b ha hb=>by
 rw[hx]at ha;rw[hy]at hb
 cases k with
 |zero=>simp at ha hb;subst ha;subst hb;exact⟨h1,h2⟩
 |succ k=>simp at ha⟩
def WkL(G:Ghost):List AV->List AV->Prop
 | [],[]=>True
 |a::r,b::s=>Wk G a b/\WkL G r s
 |_,_=>False
theorem WkL.len{G:Ghost}: ∀{l m:List AV},WkL G l m->l.length=m.length
 | [],[],_=>rfl
 |a::r,b::s,h=>by simp[WkL.len h.2]
 | [],_::_,h=>h.elim
 |_::_,[],h=>h.elim
theorem WkL.get{G:Ghost}: ∀{l m:List AV},WkL G l m-> ∀(i:Nat)a b,l[i]? =some a->m[i]? =some b->Wk G a b
 | [],[],_,i,a,b,h,_=>by simp at h
 |a::r,b::s,h,0,x,y,h1,h2=>by simp at h1 h2;subst h1;subst h2;exact h.1
 |a::r,b::s,h,i+1,x,y,h1,h2=>WkL.get h.2 i x y (by simpa using h1) (by simpa using h2)
 | [],_::_,h,_,_,_,_,_=>h.elim
 |_::_,[],h,_,_,_,_,_=>h.elim
theorem WkL.refl{G:Ghost}: ∀l:List AV,WkL G l l
 | []=>trivial
 |a::r=>⟨.refl a,WkL.refl r⟩
theorem WkL.flat{G:Ghost}: ∀{l m:List AV},WkL G l m->(flat l).length=(flat m).length/\ ∀(k:Nat)a b,(Go.Am.flat l)[k]? =some a->(Go.Am.flat m)[k]? =some b->(b.scalar=true->a.scalar=true)/\ ∀v,V G b v->V G a v
 | [],[],_=>⟨rfl,λk a b h=>by simp[Go.Am.flat]at h⟩
 |x::r,y::s,h=>by
  obtain⟨h1,h2⟩:=WkL.flat h.2
  obtain⟨_,_,h3,h4⟩:=h.1
  simp only[Go.Am.flat,List.flatMap_cons]at h1 h2 ⊢
  refine⟨by simp[h1,h3],λk a b ha hb=>?_⟩
  by_cases hk:k<x.cells.length
  ·rw[List.getElem?_append_left hk]at ha
   rw[List.getElem?_append_left (by omega)]at hb
   exact h4 k a b ha hb
  ·rw[List.getElem?_append_right (by omega)]at ha
   rw[List.getElem?_append_right (by omega),<-h3]at hb
   exact h2 _ a b ha hb
 | [],_::_,h=>h.elim
 |_::_,[],h=>h.elim
theorem WkL.back{G:Ghost}{l m:List AV}(h:WkL G l m){i:Nat}{a:AV}(ha:l[i]? =some a): ∃b,m[i]? =some b/\Wk G a b:=by
 have hi:=(List.getElem?_eq_some_iff.1 ha).1
 rw[h.len]at hi
 exact⟨_,List.getElem?_eq_getElem hi,h.get i a _ ha (List.getElem?_eq_getElem hi)⟩
theorem WkL.sl{G:Ghost}{b:Bool}{l m:List AV}(h:WkL G l m):Wk G (.sl false l) (.sl b m):=.one rfl rfl (λ_=>rfl) λv hv=>by
 generalize hx:AV.sl b m=x at hv
 cases hv with
 |slnil full base cap hf hb=>
  injection hx with e1 e2
  subst e2
  have:l=[]:=List.eq_nil_of_length_eq_zero h.len
  subst this
  exact .slnil false base cap (λh=>by cases h) hb
 |sl full elems b off esz cap val hcap hfull hesz hsc himm hV=>
  injection hx with e1 e2
  subst e2
  obtain⟨f1,f2⟩:=h.flat
  rw[<-h.len]at hcap himm ⊢
  refine .sl false l b off esz cap val hcap (λh=>by cases h) (λe he=>?_) (λx hx=>?_) himm λk x hx=>?_
  ·obtain⟨i,hi,hg⟩:=List.getElem_of_mem he
   obtain⟨e',h1,h2⟩:=h.back (i:=i) (a:=e) (by rw[List.getElem?_eq_getElem hi,hg])
   rw[h2.2.2.1]
   exact hesz e' (List.mem_of_getElem? h1)
  ·obtain⟨i,hi,hg⟩:=List.getElem_of_mem hx
   have hi':=hi
   rw[f1]at hi'
   exact(f2 i x _ (by rw[List.getElem?_eq_getElem hi,hg]) (List.getElem?_eq_getElem hi')).1 (hsc _ (List.getElem_mem hi'))
  ·have hi:=(List.getElem?_eq_some_iff.1 hx).1
   rw[f1]at hi
   exact(f2 k x _ hx (List.getElem?_eq_getElem hi)).2 _ (hV k _ (List.getElem?_eq_getElem hi))
 |_=>cases hx
theorem WkL.agg{G:Ghost}{l m:List AV}(h:WkL G l m):Wk G (.agg l) (.agg m):=by
 refine⟨λh=>(by cases h),λv hv=>?_,h.len,λk a b ha hb=>⟨(h.get k a b ha hb).1,(h.get k a b ha hb).2.1⟩⟩
 generalize hx:AV.agg m=x at hv
 cases hv with
 |agg cs vs hlen hV=>
  injection hx with e1
  subst e1
  refine .agg l vs (h.len.trans hlen) λi x y hx hy=>?_
  obtain⟨b,h1,h2⟩:=h.back hx
  exact h2.2.1 _ (hV i b y h1 hy)
 |_=>cases hx
mutual
def wkT{S:Nat->Type}(E:(c:Nat)->S c->AV):AV->TV S->Option Prs
 |x,.s _ cs=>match x with
  |.sl false l=>wkTL E l cs
  |_=>none
 |x,.l _ c xs=>match x with
  |.sl false l=>some [(.sl false l,.sl false (xs.map (E c)))]
  |_=>none
 |x,.agg cs=>match x with
  |.agg l=>wkTL E l cs
  |_=>none
 |x,.a y=>match y with
  |.sl _ m=>(match x with
   |.sl false l=>some [(.sl false l,.sl false m)]
   |_=>none)
  |y=>some [(x,y)]
 |x,y=>some [(x,y.er E)]
def wkTL{S:Nat->Type}(E:(c:Nat)->S c->AV):List AV->List (TV S)->Option Prs
 | [],[]=>some []
 |x::r,y::s=>andQ (wkT E x y) (wkTL E r s)
 |_,_=>none
end
section
variable {B:Tab} {G:Ghost}
mutual
theorem wkT_ok: ∀{x:AV}{y:TV B.S}{q:Prs},wkT B.E x y=some q->(∀p∈q,p.1=p.2)->Wk G x (y.er B.E)
 |x,.s b cs,q,h,hq=>by
  unfold wkT at h
  split at h
  ·exact(wkTL_ok h hq).sl
  ·cases h
 |x,.l b c xs,q,h,hq=>by
  unfold wkT at h
  split at h
  ·have:=one h hq
   injection this with _ e
   subst e
   exact(WkL.refl _).sl
  ·cases h
 |x,.agg cs,q,h,hq=>by
  unfold wkT at h
  split at h
  ·exact(wkTL_ok h hq).agg
  ·cases h
 |x,.a y,q,h,hq=>by
  unfold wkT at h
  split at h
  ·split at h
   ·have:=one h hq
    injection this with _ e
    subst e
    exact(WkL.refl _).sl
   ·cases h
  ·have:=one h hq;subst this;exact .refl _
 |x,.i k n,q,h,hq=>by unfold wkT at h;have:=one h hq;subst this;exact .refl _
 |x,.b t,q,h,hq=>by unfold wkT at h;have:=one h hq;subst this;exact .refl _
 |x,.z t,q,h,hq=>by unfold wkT at h;have:=one h hq;subst this;exact .refl _
 |x,.v c y,q,h,hq=>by unfold wkT at h;have:=one h hq;subst this;exact .refl _
 |x,.tup cs,q,h,hq=>by unfold wkT at h;have:=one h hq;subst this;exact .refl _
 |x,.ip cs,q,h,hq=>by unfold wkT at h;have:=one h hq;subst this;exact .refl _
 |x,.fn f cs,q,h,hq=>by unfold wkT at h;have:=one h hq;subst this;exact .refl _
 |x,.pt i a n,q,h,hq=>by unfold wkT at h;have:=one h hq;subst this;exact .refl _
theorem wkTL_ok: ∀{l:List AV}{m:List (TV B.S)}{q:Prs},wkTL B.E l m=some q->(∀p∈q,p.1=p.2)->WkL G l (erL B.E m)
 | [],[],q,h,hq=>trivial
 |x::r,y::s,q,h,hq=>by
  unfold wkTL at h
  obtain⟨⟨q1,h1,e1⟩,q2,h2,e2⟩:=andQ_ok h hq
  exact⟨wkT_ok h1 e1,wkTL_ok h2 e2⟩
 | [],_::_,q,h,hq=>by unfold wkTL at h;cases h
 |_::_,[],q,h,hq=>by unfold wkTL at h;cases h
end
theorem tpX{P:Program}{g:FuncId}{args:List (TV B.S)}{α:Type}{X:α->TV B.S}{o:Option α}(args':List (TV B.S))(h: ∀a,o=some a->TPure B P g args X a)
  (hw:((wkTL B.E (erL B.E args) args').isSome,(retPQ (wkTL B.E (erL B.E args) args')).map Prod.fst)=(true,(retPQ (wkTL B.E (erL B.E args) args')).map Prod.snd):=by kernel_rfl): ∀a,o=some a->TPure B P g args' X a:=λa ho s G w vs hs hv=>by
 simp only[Prod.mk.injEq]at hw
 obtain⟨q,hq,hp⟩:=retPQ_ok (pairs_ok hw.2)
 have hl:WkL G (erL B.E args) (erL B.E args'):=wkTL_ok hq hp
 exact h a ho s G w vs hs ⟨hl.len.trans hv.1,λi x y hx hy=>by
  obtain⟨b,h1,h2⟩:=hl.back hx
  exact h2.2.1 y (hv.2 i b y h1 hy)⟩
end
section
variable {B:Tab} {P:Program} {N:Nat} {ρ:Option Nat} {Q:Exit->Env->St->Prop} {M:TM B.S}
theorem nilTl{S:Nat->Type}{E:(c:Nat)->S c->AV}{f:Bool}{c:Nat}{x:List (S c)}(h:nilish ((TV.l f c x).er E)):x=[]:=nilSl h
theorem nilTm{S:Nat->Type}{E:(c:Nat)->S c->AV}{i:Nat}{α:Type}{x:List α}(h:nilish ((TV.a (.ms i 0 x.length):TV S).er E)):x=[]:=nilMs h
def nlR(B:Tab)(P:Program)(N:Nat)(M:TM B.S):Option (Code×Option Nat×Env×AV):=match M.o with
 |.run c=>nilRun P N c (erE B M.env) (erS B M.s)
 |_=>none
def nlM{B:Tab}(o:Option (Code×Option Nat×Env×AV))(E1:TEnv B.S)(b:Bool)(M:TM B.S):TM B.S:=match o with
 |some (y,d,_,_)=>⟨.run y,M.k,eputT d (.a (.bool b)) E1,M.s⟩
 |none=>M
def nlE{B:Tab}(t:Nat)(v:TV B.S)(M:TM B.S):TEnv B.S:=eset M.env t v
theorem tNl(rid t:Nat)(v:TV B.S)(k1:nilish (v.er B.E)->RT B P N ρ Q (nlM (nlR B P N (toReg B P N rid M).1) (nlE t v (toReg B P N rid M).1) true (toReg B P N rid M).1))
  (k2:RT B P N ρ Q (nlM (nlR B P N (toReg B P N rid M).1) (nlE t v (toReg B P N rid M).1) false (toReg B P N rid M).1))
  (hx:((nlR B P N (toReg B P N rid M).1).map (λq=>(q.2.2.1,q.2.2.2)),(toReg B P N rid M).2.map Prod.fst)=
   (some (erE B (nlE t v (toReg B P N rid M).1),v.er B.E),(toReg B P N rid M).2.map Prod.snd):=by kernel_rfl):RT B P N ρ Q M:=by
 simp only[Prod.mk.injEq]at hx
 obtain⟨h1,h2⟩:=hx
 refine⟨goT_ok (pairs_ok h2) ?_⟩
 have k2:=k2.v
 have k1:=λh=>(k1 h).v
 revert h1 k1 k2
 show _->_->_->RT0 B P N ρ Q (toReg B P N rid M).1
 generalize(toReg B P N rid M).1=g
 intro h1 k2 k1
 obtain⟨o,kk,env,s⟩:=g
 unfold nlR at h1 k1 k2
 cases o<;>simp only[Option.map_none]at h1<;>first|(cases h1;done)|skip
 rename_i c
 simp only at k1 k2
 generalize hr:nilRun P N c (erE B env) (erS B s)=q at h1 k1 k2
 cases q with
 |none=>cases h1
 |some q=>
  obtain⟨y,d,E1,x⟩:=q
  simp only[Option.map_some,Option.some.injEq,Prod.mk.injEq]at h1
  obtain⟨h1,h3⟩:=h1
  refine run_nl y d E1 x hr λb hb=>?_
  have hE: ∀b,eput d (.bool b) E1=erE B (eputT d (.a (.bool b)) (nlE t v ⟨.run c,kk,env,s⟩)):=λb=>by rw[eput_er,h1];rfl
  rw[hE]
  cases b with
  |true=>exact k1 (h3 ▸ hb rfl)
  |false=>exact k2
end
end Go.Am
