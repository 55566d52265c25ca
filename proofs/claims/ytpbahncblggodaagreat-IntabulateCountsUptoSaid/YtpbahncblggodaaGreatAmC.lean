/- The logic AM, C: regions, functions, drawn regions, ranges over functions. -/
import Derived.Test.YtpbahncblggodaaGreatAmB
import Derived.RangeFuncNested
set_option linter.all false
section
namespace Go.Am
open Go.RowKit
section
variable {P:Program} {N:Nat} {ρ:Option Nat} {Q:Exit->Env->St->Prop} {bI:Env} {s:St} {G:cg} {a:Act} {w:World}
theorem xe.put{G':cg}{s':St}{w':World}{x:AV}{v:Value}{d:Option Nat}(h:xe G N ρ bI s a w)(hd:mE N d=true)(hv:V G' x v)(hs:eL G' s' w')(hx:Ext G s w G' s' w'):
  xe G' N ρ (fF d x bI) s' (a.put d v) w':=by
 refine⟨hs,?_,?_,?_,h.known.le hx.le⟩
 ·intro t y hy
  cases d with
  |none=>exact(h.bI.mono hx.le) t y hy
  |some d=>
   simp only[mE,xL]at hd
   have gq:d<a.tmps.size:=by rw[h.size];exact hd
   simp only[Go.Am.fF,eO]at hy
   simp only[Act.put,Array.size_setIfInBounds]
   split at hy
   ·rename_i he;subst he;cases hy
    exact⟨gq,by simp[xc,gq];exact hv⟩
   ·rename_i he
    obtain⟨e1,e2⟩:=(h.bI.mono hx.le) t y hy
    refine⟨e1,?_⟩
    rw[xc,U2 he,<-xc]
    exact e2
 ·cases d<;>simp[Act.put,h.size]
 ·cases d<;>exact h.mg.ext hx
theorem AW{op:Op}{f:Operand}{l:List Operand}(h:ga op=some (f,l)): ∃args ts,op=.call ⟨.value f,args,ts⟩/\l=args.toList:=by
 unfold ga at h
 split at h
 ·cases h;exact⟨_,_,rfl,rfl⟩
 ·cases h
theorem vm{o:Oper}{K:AV->St->Prop}{next:Act->World->Prop}{R:Exit->Act->World->Prop}(h:Vd P o K bI s)(hn:xe G N ρ bI s a w)(ro:Option Nat)
  (hK: ∀v G' x s' w',V G' x v->eL G' s' w'->Ext G s w G' s' w'->K x s'->next (a.put o.dst v) w'):o.wpIn (vd ro) 0 P a w next R:=by
 refine⟨λ_ _=>trivial,?_⟩
 unfold Vd at h
 split at h
 ·rename_i f args hc
  obtain⟨arr,ts,yb,rfl⟩:=AW hc
  have B6:o.semAt (vd ro).round a.eval=execOp a.eval o:=Oper.semAt_eq _ _ _ (λc=>by rw[yb];simp)
  rw[B6]
  split at h
  ·rename_i g fQ l hf hl
   obtain⟨he,Vx⟩:=h
   have HH:=eM hn.bI hf
   have HI:=tG hn.bI hl
   generalize hq:a.eval f=fv at HH
   cases HH with
   |fn _ _ vs h1 h2=>
    unfold enters at he
    split at he
    case h_2=>cases he
    rename_i fn OK
    simp only[fi,bne_iff_ne,pU]at he
    have Lw: ¬fn.body=none:=by cases hb:fn.body<;>simp[hb]at he |-
    have fB:(execOp a.eval o).run P w=.ok (.enter g (arr.map a.eval++vs)) w:=by
     simp[execOp,yb,resolve,Deferred.ofValue,hq,invoke,callFunc,OK,he.1,Lw]
    rw[fB,Oper.uponIn_enter]
    refine⟨(λh=>by cases h),?_⟩
    exact(qc (Vx G w _ hn.iQ (HI.append ⟨h1,h2⟩))).mono λe w' ⟨v,G',x,s',e1,e2,e3,e4,e5⟩=>by subst e1;exact hK v G' x s' w' e2 e3 e4 e5
  ·rename_i id l hf hl
   have HH:=eM hn.bI hf
   have HI:=tG hn.bI hl
   generalize hq:a.eval f=fv at HH
   cases HH with
   |kK _ r ho=>
    obtain⟨fn,tmps,assign,body,y1,y2⟩:=h ro G w r _ hn.iQ ho HI
    have fB:(execOp a.eval o).run P w=.ok (.round r.block fn tmps assign body) w:=by
     simp[execOp,yb,resolve,Deferred.ofValue,hq,invoke,y1]
    rw[fB,Oper.uponIn_round]
    refine⟨(λh=>by cases h),?_⟩
    exact y2.mono λe w' ⟨v,G',x,s',e1,e2,e3,e4,e5⟩=>by subst e1;exact hK v G' x s' w' e2 e3 e4 e5
  ·cases h
 ·split at h
  case h_2=>cases h
  rename_i x s' hx
  have B6:o.semAt (vd ro).round a.eval=execOp a.eval o:=Oper.semAt_eq _ _ _ (λc=>by
   intro e;rw[e]at hx;simp[iX]at hx)
  rw[B6]
  obtain⟨nx,v,G',w',e1,e2,e3,e4,e5⟩:=vl hn.iQ hn.bI o hx
  rw[e1]
  rcases e2 with rfl|⟨rfl,rfl⟩
  ·rw[Oper.uponIn_value];exact hK v G' x s' w' e3 e4 e5 h
  ·rw[Oper.uponIn_skip];exact hK undef G' x s' w' e3 e4 e5 h
theorem JA{ops:Array Oper}{o:Oper}{A B:Prop}(h:XL ops o bI A B)(hv:jm G bI a.tmps):
  (Region.wanted o (yielded ops a.tmps)=true/\A)\/(Region.wanted o (yielded ops a.tmps)=false/\B):=by
 unfold XL at h
 unfold Region.wanted
 split at h
 ·rename_i hg;exact .inl ⟨by simp[hg],h⟩
 ·rename_i j want hg
  split at h
  case h_2=>cases h
  rename_i d hd
  split at h
  ·rename_i b hb
   obtain⟨e1,e2⟩:=hv d _ hb
   have hy:yielded ops a.tmps j=some b:=by
    unfold yielded
    rw[hd]
    simp only[cK]
    rw[xc,Ky e1,Ab]at e2
    rw[Ky e1]
    generalize a.tmps[d]=v at e2
    cases e2;rfl
   rw[hg]
   simp only[hy]
   by_cases Lx:b=want
   ·exact .inl ⟨by simp[Lx],h.1 Lx⟩
   ·exact .inr ⟨by simp[Lx],h.2 (by cases b<;>cases want<;>simp_all)⟩
  ·rename_i hb
   obtain⟨e1,e2⟩:=hv d _ hb
   have hy:yielded ops a.tmps j=none:=by
    unfold yielded
    rw[hd]
    simp only[cK]
    rw[xc,Ky e1,Ab]at e2
    rw[Ky e1]
    generalize a.tmps[d]=v at e2
    cases e2;rfl
   rw[hg]
   simp only[hy]
   exact .inr ⟨by simp,h⟩
  ·cases h
def Ly(P:Program)(bI:Env)(s:St):ResultVar->Option AV
 |.tmp t=>bH bI t
 |.cell t ty=>match bH bI t with
  |some p=>pJ P ty p s
  |none=>none
def wa(P:Program)(bI:Env)(s:St):List ResultVar->Option (List AV)
 | []=>some []
 |r::l=>match Ly P bI s r,wa P bI s l with
  |some x,some xs=>some (x::xs)
  |_,_=>none
def lE(P:Program)(rs:Array ResultVar)(bI:Env)(s:St):Option AV:=match wa P bI s rs.toList with
 |some [x]=>some x
 |some l=>some (.ec l)
 |none=>none
def HJ(tmps:Array Value)(r:ResultVar):Sem Value:=match r with
 |.tmp t=>pure (tmps.getD t undef)
 |.cell a t=>do loadVar t (<-asAddr (tmps.getD a undef))
theorem HK(hs:eL G s w){w2:World}(hw: ∀a,w2.cell? a=w.cell? a){tmps:Array Value}(he:jm G bI tmps): ∀{l:List ResultVar}{xs:List AV},wa P bI s l=some xs->
  ∃vs:List Value,(l.mapM (HJ tmps)).run P w2=.ok vs w2/\VL G xs vs.toArray
 | [],xs,h=>by simp[wa]at h;subst h;exact⟨[],rfl,rfl,by simp⟩
 |r::l,xs,h=>by
  simp only[wa]at h
  split at h
  case h_2=>cases h
  rename_i x ys hx B7
  cases h
  obtain⟨vs,e1,e2⟩:=HK hs hw he B7
  have one: ∃v,(HJ tmps r).run P w2=.ok v w2/\V G x v:=by
   cases r with
   |tmp t=>exact⟨_,rfl,(he t x hx).2⟩
   |cell t ty=>
    simp only[Ly]at hx
    split at hx
    case h_2=>cases hx
    rename_i p hp
    unfold pJ at hx
    split at hx
    case h_2=>cases hx
    rename_i cs tK
    obtain⟨b,o,hpv,ht⟩:=su hs (he t p hp).2 tK
    have zV:qe G w2 b o cs:=λk x hx=>by rw[hw];exact ht k x hx
    obtain⟨v,r1,r2⟩:=zV.read (P:=P) hx
    exact⟨v,by simp[HJ,hpv,asAddr,r1],r2⟩
  obtain⟨v,o1,o2⟩:=one
  refine⟨v::vs,by simp[List.mapM_cons,o1,e1],by simpa using e2.1,λi p q hp hq=>?_⟩
  cases i with
  |zero=>simp at hp hq;subst hp;subst hq;exact o2
  |succ i=>exact e2.2 i p q (by simpa using hp) (by simpa using hq)
theorem F4(hs:eL G s w){w2:World}(hw: ∀a,w2.cell? a=w.cell? a){tmps:Array Value}(he:jm G bI tmps){fn:Func}{x:AV}(h:lE P fn.results bI s=some x):
  ∃v,(results fn tmps).run P w2=.ok v w2/\V G x v:=by
 unfold lE at h
 have key: ∀xs,wa P bI s fn.results.toList=some xs-> ∃vs:List Value,(results fn tmps).run P w2=.ok (if h:vs.toArray.size=1 then vs.toArray[0]else .tuple vs.toArray) w2/\VL G xs vs.toArray:=by
  intro xs ZC
  obtain⟨vs,e1,e2⟩:=HK (P:=P) hs hw he ZC
  refine⟨vs,?_,e2⟩
  have hr:results fn tmps=(do let vs<-fn.results.mapM (HJ tmps);pure (if h:vs.size=1 then vs[0]else .tuple vs)):=by
   unfold results
   congr 1
  rw[hr,Sem.run_bind,Array.mapM_eq_mapM_toList,Sem.run_map,e1]
  try rfl
 split at h
 ·rename_i y hy
  cases h
  obtain⟨vs,e1,e2⟩:=key _ hy
  have hl:vs.length=1:=by simpa using e2.1.symm
  match vs,hl with
  | [v],_=>exact⟨v,by simpa using e1,e2.2 0 x v rfl rfl⟩
 ·rename_i l hl eV
  cases h
  obtain⟨vs,e1,e2⟩:=key _ eV
  have dA: ¬vs.toArray.size=1:=λhh=>by
   rw[<-e2.1]at hh
   match l,hh with
   | [y],_=>exact hl y rfl
  rw[dif_neg dA]at e1
  exact⟨_,e1,.ec _ _ e2.1 e2.2⟩
 ·cases h
def F5(s' s:St):Prop:=(∀id b,bH s'.heap id=some b->bH s.heap id=some b/\b≠ .gr)/\s.bT<=s'.bT
def JB(P:Program)(rs:Array ResultVar)(K:AV->St->Prop):Exit->Env->St->Prop
 |.normal,bI,s|.ret,bI,s=> ∃x s',lE P rs bI s=some x/\F5 s' s/\K x s'
 |_,_,_=>False
def nw(l:List AV):Nat->Env
 |k=>match l with
  | []=>[]
  |x::r=>(k,x)::nw r (k+1)
theorem ye: ∀(l:List AV)(k t:Nat)(x:AV),bH (nw l k) t=some x->k<=t/\l[t-k]? =some x
 | [],k,t,x,h=>by simp[nw,cV,cM]at h
 |y::r,k,t,x,h=>by
  simp only[nw,cV,cM]at h
  split at h
  ·rename_i he;subst he;cases h;simp
  ·obtain⟨h1,h2⟩:=ye r (k+1) t x h
   refine⟨by omega,?_⟩
   rw[show t-k=(t-(k+1))+1 from by omega]
   simpa using h2
structure Lz (G:cg) (s:St) (w w':World):Prop where
 size:w'.heap.size=w.heap.size
 os:w'.os=w.os
 tape:w'.tape=w.tape
 output:w'.output=w.output
 drawn:w'.drawn=w.drawn
 heap: ∀b:Nat,w'.heap[b]? =w.heap[b]?\/((∃x,w.heap[b]? =some (.deferred x))/\(∃y,w'.heap[b]? =some (.deferred y))/\ ∃id r,bH s.heap id=some .gr/\G.own id=some r/\r.block=b)
theorem Lz.refl(G:cg)(s:St)(w:World):Lz G s w w:=⟨rfl,rfl,rfl,rfl,rfl,λ_=>.inl rfl⟩
theorem Lz.cell{w':World}(h:Lz G s w w')(x:Addr):w'.cell? x=w.cell? x:=by
 rcases h.heap x.block with e|⟨⟨y,e1⟩,⟨z,e2⟩,_⟩
 ·exact World.cell?_of_block (w:=w) e
 ·simp[World.cell?,e1,e2]
theorem tR{F:Fence}{fn:Func}{tmps:Array Value}{R:Ending->World->Prop}: ∀(ds:List Deferred)(s:St)(w:World),eL G s w->oM G s ds->
  (∀w',Lz G s w w'-> ∃v,(results fn tmps).run P w'=.ok v w'/\R (.returned v) w')->LeavesInM F 0 P fn tmps R ds .returning w
 | [],s,w,hs,_,h=>by
  obtain⟨v,h1,h2⟩:=h w (.refl _ _ _)
  exact⟨v,h1,h2⟩
 |d::ds,s,w,hs,⟨⟨id,r,hg,ho,ht,eV⟩,hr⟩,h=>by
  obtain⟨o,e2,e3⟩:=hs.at hg ho
  cases e3
  refine⟨by simp,.inl ⟨r.block,{w with heap:=w.heap.setIfInBounds r.block (.deferred none)},ht,?_,?_⟩⟩
  ·simp[Instr.takeDeferred,getObj,setObj,Sem.run,e2]
  ·have gq:r.block<w.heap.size:=(Qr.1 e2).1
   have gd: ∀i b,bH (eB s.heap id) i=some b->i≠id/\bH s.heap i=some b:=λi b hi=>by
    rw[fH]at hi
    split at hi
    ·cases hi
    ·exact⟨by omega,hi⟩
   have hk: ∀b,b≠r.block->(w.heap.setIfInBounds r.block (.deferred none))[b]? =w.heap[b]?:=λb hb=>U2 (λe=>hb e.symm)
   refine tR ds ⟨eB s.heap id,s.bT⟩ _ ?_ ?_ ?_
   ·refine⟨λb o v hi=>?_,λi b hi=>?_,λi i' b b' r1 r2 h1 h2=>hs.apart i i' b b' r1 r2 (gd _ _ h1).2 (gd _ _ h2).2,λi b r1 o hi Jl=>hs.clear i b r1 o (gd _ _ hi).2 Jl,hs.ct,λi b hi=>hs.lt i b (gd _ _ hi).2⟩
    ·have hb:b≠r.block:=λe=>by subst e;rw[hs.clear id _ r o hg ho]at hi;cases hi
     have:=hs.gP b o v hi
     rwa[World.cell?_of_block (w:=w) (hk b hb)]
    ·obtain⟨mW,kv⟩:=gd i b hi
     rcases hs.heap i b kv with⟨r1,o1,q1,q2,q3⟩|e
     ·exact .inl ⟨r1,o1,q1,by rw[hk _ (hs.apart i id b _ r1 r kv hg q1 ho mW)];exact q2,q3⟩
     ·exact .inr e
   ·have aux: ∀(l:List Deferred),(∀d'∈l,∀b,d'.target=.collected b->b≠r.block)->oM G s l->oM G ⟨eB s.heap id,s.bT⟩ l:=by
     intro l
     induction l with
     |nil=>intro _ _;trivial
     |cons d' l ih=>
      intro iP ⟨⟨i,r1,a1,a2,a3,a4⟩,wb⟩
      refine⟨⟨i,r1,?_,a2,a3,a4⟩,ih (λd'' hd=>iP d'' (by simp[hd])) wb⟩
      have hb:=iP d' (by simp) r1.block a3
      show bH (eB s.heap id) i=some .gr
      rw[fH,dM (λe=>by subst e;rw[ho]at a2;cases a2;exact hb rfl)]
      exact a1
    exact aux ds eV hr
   ·intro w' zW
    refine h w' ⟨by rw[zW.size];simp,zW.os,zW.tape,zW.output,zW.drawn,λb=>?_⟩
    by_cases hb:b=r.block
    ·subst hb
     refine .inr ⟨⟨_,e2⟩,?_,id,r,hg,ho,rfl⟩
     rcases zW.heap r.block with e|⟨_,e,_⟩
     ·exact⟨none,by rw[e];simp[gq]⟩
     ·exact e
    ·rcases zW.heap b with e|⟨⟨x,q1⟩,q2,i,r1,q3,q4,q5⟩
     ·exact .inl (e.trans (hk b hb))
     ·exact .inr ⟨⟨x,by rw[<-hk b hb];exact q1⟩,q2,i,r1,(gd i _ q3).2,q4,q5⟩
theorem B8{f:FuncId}{fn:Func}{c:Code}{args:List AV}{K:AV->St->Prop}(hf:P.funcs[f]? =some fn)(hb:fn.body=some c)(hn:args.length<=fn.ntmps)
  (ZD: ∀id,bH s.heap id≠some .gr) (h:lT P fn.ntmps none c (JB P fn.results K) (nw args 0) s):dQ P f args s K:=λG w vs hs hv=>by
 refine callsIn_wide (n:=0) |>.1 ?_
 refine callsIn_of_wp_marks hf hb trivial ?_
 have JC:xe G fn.ntmps none (nw args 0) s {tmps:=vs++Array.replicate (fn.ntmps-vs.size) undef,defers:=[]} w:=by
  refine⟨hs,λt x hx=>?_,?_,trivial,λid e=>by cases e⟩
  ·obtain⟨_,h2⟩:=ye args 0 t x hx
   simp only[Nat.sub_zero]at h2
   obtain⟨v,e1,e2⟩:=hv.get h2
   have gq:t<vs.size:=(Qr.1 e1).1
   refine⟨by simp;omega,?_⟩
   rw[xc,Xw gq,e1]
   exact e2
  ·have:=hv.1
   simp;omega
 have:=h G w _ JC
 refine wpIn_mono this ?_
 rintro e a' w' ⟨G',env',s',n',x',q'⟩
 have fin:(∃x s2,lE P fn.results env' s'=some x/\F5 s2 s'/\K x s2)->LeavesInM Fence.wide 0 P fn a'.tmps (wM G s w K) a'.defers .returning w':=by
  rintro⟨x,s2,hx,hl,hk⟩
  refine tR a'.defers s' w' n'.iQ n'.mg λw2 zW=>?_
  obtain⟨v,Je,hV2⟩:=F4 (P:=P) n'.iQ zW.cell n'.bI hx
  have nN:=n'.iQ
  refine⟨v,Je,v,G',x,s2,rfl,hV2,⟨?_,?_,?_,?_,?_,?_⟩,⟨x'.le,zW.os.trans x'.os,zW.tape.trans x'.tape,zW.output.trans x'.output,by rw[zW.size];exact x'.size,?_,x'.jA,x'.iW,?_,vU x'.bT hl.2,?_,x'.stay,by rw[zW.drawn];exact x'.drawn⟩,hk⟩
  ·intro b o u hi;rw[zW.cell];exact nN.gP b o u hi
  ·intro id b hg
   obtain⟨kv,eV⟩:=hl.1 id b hg
   rcases nN.heap id b kv with⟨r,o,e1,e2,e3⟩|e
   case inr=>exact .inr e
   refine .inl ⟨r,o,e1,?_,e3⟩
   rcases zW.heap r.block with e|⟨⟨y,q1⟩,_,_⟩
   ·rw[e];exact e2
   ·rw[e2]at q1;cases q1
    cases e3
    exact absurd rfl eV
  ·intro id fG b b' r r' h1 h2;exact nN.apart id fG b b' r r' (hl.1 _ _ h1).1 (hl.1 _ _ h2).1
  ·intro id b r o hg;exact nN.clear id b r o (hl.1 _ _ hg).1
  ·intro id jT;exact nN.ct id (vU hl.2 jT)
  ·intro id b hg;exact RH (nN.lt id b (hl.1 id b hg).1) hl.2
  ·intro b hb rQ
   rcases zW.heap b with e|⟨_,_,id,r,q1,q2,q3⟩
   ·rw[e];exact x'.keep b hb rQ
   ·exfalso
    rcases x'.iW id r q2 with h|h|h
    ·rcases x'.ids id _ q1 with⟨b0,DE⟩|KC
     ·exact rQ ⟨id,b0,r,DE,h,q3⟩
     ·rw[hs.ct id KC]at h;cases h
    ·omega
    ·rw[q3]at h;exact rQ h
  ·intro id b hg;exact x'.ids id b (hl.1 _ _ hg).1
  ·intro id jT;exact absurd jT (ZD id)
 cases e with
 |normal=>exact fin q'
 |ret=>exact fin q'
 |exit id=>exact q'.elim
 |goto l=>exact q'.elim
 |panic ch=>exact q'.elim
 |outgrown=>exact q'.elim
end
end Go.Am
end
section
namespace Go.Am
open Go.RowKit
mutual
def AV.dy:AV->Bool
 |.mp _ _ _=>false
 |.ms _ _ _=>false
 |.mc _ _ _ _=>false
 |.kK _=>false
 |.sl _ l=>eQ l
 |.agg l=>eQ l
 |.ec l=>eQ l
 |.fn _ l=>eQ l
 |.ip l=>eQ l
 |_=>true
def eQ:List AV->Bool
 | []=>true
 |x::r=>x.dy&&eQ r
end
theorem ep{l:List AV}:eQ l=true↔ ∀x∈l,x.dy=true:=by
 induction l with
 |nil=>simp[eQ]
 |cons x r ih=>simp[eQ,ih]
theorem lF{x:AV}(h:x.dy=true): ∀y∈x.cells,y.dy=true:=by
 intro y hy
 cases x<;>simp only[AV.cells,RF]at hy<;>first
  |(subst hy;exact h)
  |(simp only[AV.dy]at h;exact ep.1 h y hy)
theorem V.dy{G G':cg}(hi: ∀b o v,G.gP b o=some v->G'.gP b o=some v){x:AV}{v:Value}(h:V G x v):x.dy=true->V G' x v:=by
 induction h with
 |any v=>exactλ_=>.any v
 |bool b=>exactλ_=>.bool b
 |int k n=>exactλ_=>.int k n
 |str s=>exactλ_=>.str s
 |iE=>exactλ_=>.iE
 |mV=>exactλ_=>.mV
 |slnil full bR cap hf hb=>exactλ_=>.slnil full bR cap hf hb
 |sl full elems b off cB cap val jY jS ee jz gS _ ih=>
  intro hc
  refine .sl full elems b off cB cap val jY jS ee jz (λk hk=>hi _ _ _ (gS k hk)) λk x hx=>ih k x hx ?_
  have hm:=gz hx
  rw[dn,sF]at hm
  obtain⟨y,hy,pV⟩:=hm
  simp only[AV.dy]at hc
  exact lF (ep.1 hc y hy) x pV
 |ip cells b off val gS _ ih=>
  intro hc
  simp only[AV.dy]at hc
  exact .ip cells b off val (λk hk=>hi _ _ _ (gS k hk)) λk x hx=>ih k x hx (ep.1 hc x (gz hx))
 |mp id el off r h=>intro hc;cases hc
 |ms id bL len cap r addr h eE eZ ha=>intro hc;cases hc
 |gC id bL cap bR h=>intro hc;cases hc
 |mc id bL len cap r addr h eE eZ ha=>intro hc;cases hc
 |mZ id bL bR=>intro hc;cases hc
 |fn f fQ vs dA _ ih=>
  intro hc
  simp only[AV.dy]at hc
  exact .fn f fQ vs dA λi x y hx hy=>ih i x y hx hy (ep.1 hc x (gz hx))
 |kK id r h=>intro hc;cases hc
 |agg cs vs dA _ ih=>
  intro hc
  simp only[AV.dy]at hc
  exact .agg cs vs dA λi x y hx hy=>ih i x y hx hy (ep.1 hc x (gz hx))
 |ec cs vs dA _ ih=>
  intro hc
  simp only[AV.dy]at hc
  exact .ec cs vs dA λi x y hx hy=>ih i x y hx hy (ep.1 hc x (gz hx))
section
variable {P:Program} {G:cg} {s:St} {w:World}
def St.nil:St:=⟨[],0⟩
def nR(P:Program)(f:FuncId)(args:List AV)(x:AV):Prop:= ∀s,dQ P f args s λy s'=>y=x/\s'=s
theorem Vy{f:FuncId}{args:List AV}{x:AV}(ha:eQ args=true)(hx:x.dy=true)(h:dQ P f args St.nil λy _=>y=x):nR P f args x:=λs G w vs hs hv=>by
 let G0:cg:={gP:=G.gP,own:=λ_=>none}
 have QD:eL G0 St.nil w:=⟨hs.gP,λid b hg=>by simp[St.nil,cV,cM]at hg,λid _ b _ _ _ hg=>by simp[St.nil,cV,cM]at hg,λid b _ _ hg=>by simp[St.nil,cV,cM]at hg,λ_ _=>rfl,λid b hg=>by simp[St.nil,cV,cM]at hg⟩
 have hv0:VL G0 args vs:=⟨hv.1,λi p q hp hq=>V.dy (G:=G) (G':=G0) (λb o u(h:G.gP b o=some u)=>(h:G0.gP b o=some u)) (hv.2 i p q hp hq) (ep.1 ha p (gz hp))⟩
 refine(h G0 w vs QD hv0).mono ?_
 rintro e w' ⟨v,G',y,s',rfl,hV,hS,hE,rfl⟩
 let G1:cg:={gP:=G'.gP,own:=G.own}
 have eE:sr G G1:=⟨λb o v hi=>hE.le.gP b o v hi,λ_ _ h=>h⟩
 have XN: ∀b,¬lZ G0 St.nil b:=λb ⟨id,blk,r,hg,_⟩=>by simp[St.nil,cV,cM]at hg
 refine⟨v,G1,y,s,rfl,V.dy (G:=G') (G':=G1) (λb o u(h:G'.gP b o=some u)=>(h:G1.gP b o=some u)) hV hx,⟨hS.gP,λid b hg=>?_,hs.apart,λid b r o hg ho=>?_,hs.ct,hs.lt⟩,
  ⟨eE,hE.os,hE.tape,hE.output,hE.size,λb hb _=>hE.keep b hb (XN b),λb o v hi=>?_,λ_ _ h=>.inl h,λid b hg=>.inl ⟨b,hg⟩,eF _,λ_ h=>h,λ_ _ h=>h,hE.drawn⟩,rfl,rfl⟩
 ·rcases hs.heap id b hg with⟨r,o,e1,e2,e3⟩|e
  ·exact .inl ⟨r,o,e1,by rw[hE.keep _ (hs.jn hg e1) (XN _)];exact e2,e3.mono eE⟩
  ·exact .inr e
 ·cases hi:G1.gP r.block o with
  |none=>rfl
  |some u=>
   rcases hE.jA _ _ _ hi with h|h|h
   ·rw[show G.gP r.block o=none from hs.clear id b r o hg ho]at h;cases h
   ·have:=hs.jn hg ho;omega
   ·exact absurd h (XN _)
 ·rcases hE.jA _ _ _ hi with h|h|h
  ·exact .inl h
  ·exact .inr (.inl h)
  ·exact absurd h (XN _)
def rR(s:St)(x:AV)(s':St)(x':AV):Prop:= ∀G w v,eL G s w->V G x v-> ∃G',eL G' s' w/\Ext G s w G' s' w/\V G' x' v
theorem dQ.turn{f:FuncId}{args:List AV}{Q:AV->St->Prop}(h:dQ P f args s λx s'=> ∃s2 x2,rR s' x s2 x2/\Q x2 s2):dQ P f args s Q:=λG w vs hs hv=>by
 refine(h G w vs hs hv).mono ?_
 rintro e w' ⟨v,G',x,s',rfl,hV,hS,hE,s2,x2,ht,hq⟩
 obtain⟨G2,h1,h2,h3⟩:=ht G' w' v hS hV
 exact⟨v,G2,x2,s2,rfl,h3,h1,hE.trans hs h2,hq⟩
theorem rR.refl(s:St)(x:AV):rR s x s x:=λG w v hs hv=>⟨G,hs,.refl _ _ _,hv⟩
theorem kg(hs:eL G s w){id bL len cB:Nat}{elems:List AV}(hg:bH s.heap id=some (.cells cB elems))(hl:bL+len<=elems.length):
  ∃G',eL G' ⟨eB s.heap id,s.bT⟩ w/\Ext G s w G' ⟨eB s.heap id,s.bT⟩ w/\(∀bL len v,bL+len<=elems.length->V G (.ms id bL len) v->V G' (.sl false ((elems.drop bL).take len)) v)/\ ∀e v,elems=[e]->V G (.mp id 0 0) v->V G' (.ip e.cells) v:=by
 rcases hs.heap id _ hg with⟨r,o,e1,e2,e3⟩|⟨e1,sz,_,e2⟩
 case inr=>
  cases e2
  have hd: ∀i b,bH (eB s.heap id) i=some b->bH s.heap i=some b:=λi b hi=>by
   rw[fH]at hi
   split at hi
   ·cases hi
   ·exact hi
  refine⟨G,hs.drop hd (eF _),Ext.drop hd (eF _) λi hi=>?_,λbL len v hl hv=>?_,λe v he _=>by cases he⟩
  ·rw[fH,dM (λe=>by subst e;rw[hg]at hi;cases hi)];exact hi
  ·cases hv with
   |ms _ _ _ cap r' addr ho eE OU gA=>rw[e1]at ho;cases ho
   |gC _ _ cap bR hc=>
    simp only[RL]
    exact .slnil _ _ _ (λe=>by cases e) (λ_=>hc)
 cases e3 with
 |cells _ _ cs ty tK ee h0 iM jz eZ hV=>
  subst ee
  obtain⟨q1,q2⟩:=hs.freeze hg e1 e2
  refine⟨_,q1,q2,λbL len v hl hv=>?_,λe v he hv=>?_⟩
  case refine_2=>
   subst he
   cases hv with
   |mp _ _ _ r' ho=>
    rw[e1]at ho;cases ho
    have hc:=iM e (by simp)
    have eZ:r.bR+r.cB<=cs.size:=by simpa[tK]using eZ
    refine .ip e.cells r.block (r.bR+0*r.cB+0) (λk=>cs.getD (r.bR+k) undef) (λk hk=>?_) λk x hx=>?_
    ·have gq:r.bR+k<cs.size:=by omega
     simp[cg.gT,gq]
    ·obtain⟨u,p1,p2⟩:=hV k x (by simpa[dn]using hx)
     rw[xc,p1]
     exact p2.mono q2.le
  cases hv with
  |gC _ _ cap bR hc=>
   simp only[RL]
   exact .slnil _ _ _ (λe=>by cases e) (λ_=>hc)
  |ms _ _ _ cap r' addr ho eE OU gA=>
   rw[e1]at ho;cases ho
   have dA:((elems.drop bL).take len).length=len:=by simp;omega
   have ku: ∀y∈(elems.drop bL).take len,y∈elems:=λy hy=>Hv (xK hy)
   by_cases hn:len=0
   ·subst hn
    simp only[RL]
    exact .slnil _ _ _ (λe=>by cases e) (λe=>by cases e)
   ·rw[gA (by omega)]
    have key:=V.sl (G:=G.gT r.block cs) false ((elems.drop bL).take len) r.block (r.bR+bL*r.cB) r.cB cap (λk=>cs.getD (r.bR+bL*r.cB+k) undef) (by omega) (by simp)
     (λy hy=>iM y (ku y hy)) (λy hy=>jz y (by
      rw[dn,sF]at hy |-
      obtain⟨z,hz,hy⟩:=hy
      exact⟨z,ku z hz,hy⟩)) (λk hk=>by
      rw[dA]at hk
      have h1:(bL+len)*r.cB<=elems.length*r.cB:=Aa _ hl
      rw[uV]at h1
      have gq:r.bR+bL*r.cB+k<cs.size:=by omega
      simp[cg.gT,gq]) (λk y hy=>by
      have hk:=gX (n:=bL+len) (l:=bL) iM h0 (k:=k) (x:=y) (by
       rw[show(elems.take (bL+len)).drop bL=(elems.drop bL).take len from by rw[List.drop_take];congr 1;omega]
       exact hy)
      obtain⟨u,p1,p2⟩:=hV _ y hk
      rw[xc,Dk,p1]
      exact p2.mono q2.le)
    rw[dA]at key
    exact key
def vn:AV->St->AV×St
 |.ms id bL len,s=>match bH s.heap id with
  |some (.cells _ elems)=>if bL+len<=elems.length then(.sl false ((elems.drop bL).take len),⟨eB s.heap id,s.bT⟩)else(.ms id bL len,s)
  |_=>(.ms id bL len,s)
 |x,s=>(x,s)
def mX(f:AV->St->AV×St):List AV->St->List AV×St
 | [],s=>([],s)
 |x::r,s=>((f x s).1::(mX f r (f x s).2).1,(mX f r (f x s).2).2)
def tS:AV->St->AV×St
 |.agg l,s=>(.agg (mX vn l s).1,(mX vn l s).2)
 |x,s=>vn x s
def OZ:AV->St->AV×St
 |.ec l,s=>(.ec (mX tS l s).1,(mX tS l s).2)
 |x,s=>tS x s
theorem AX(s:St)(x:AV):rR s x (vn x s).2 (vn x s).1:=by
 unfold vn
 split
 ·rename_i id bL len
  split
  ·rename_i cB elems hg
   split
   ·rename_i hl
    intro G w v hs hv
    obtain⟨G',h1,h2,h3,_⟩:=kg hs hg hl
    exact⟨G',h1,h2,h3 _ _ v hl hv⟩
   ·exact .refl _ _
  ·exact .refl _ _
 ·exact .refl _ _
theorem vo{f:AV->St->AV×St}(hf: ∀s x,rR s x (f x s).2 (f x s).1): ∀(l:List AV)(s:St)(G:cg)(w:World)(vs:List Value),eL G s w->l.length=vs.length->
  (∀(i:Nat)x y,l[i]? =some x->vs[i]? =some y->V G x y)-> ∃G',eL G' (mX f l s).2 w/\Ext G s w G' (mX f l s).2 w/\(mX f l s).1.length=vs.length/\
   ∀(i:Nat)x y,(mX f l s).1[i]? =some x->vs[i]? =some y->V G' x y
 | [],s,G,w,vs,hs,hl,hV=>⟨G,hs,.refl _ _ _,hl,by simp[mX]⟩
 |x::r,s,G,w,vs,hs,hl,hV=>by
  cases vs with
  |nil=>simp at hl
  |cons v vs=>
   obtain⟨G1,a1,a2,a3⟩:=hf s x G w v hs (hV 0 x v rfl rfl)
   obtain⟨G2,b1,b2,b3,b4⟩:=vo hf r _ G1 w vs a1 (by simpa using hl) λi p q hp hq=>(hV (i+1) p q (by simpa using hp) (by simpa using hq)).mono a2.le
   refine⟨G2,b1,a2.trans hs b2,by simpa[mX]using b3,λi p q hp hq=>?_⟩
   cases i with
   |zero=>simp[mX]at hp hq;subst hp;subst hq;exact a3.mono b2.le
   |succ i=>exact b4 i p q (by simpa[mX]using hp) (by simpa using hq)
theorem AY(s:St)(x:AV):rR s x (tS x s).2 (tS x s).1:=by
 unfold tS
 split
 ·rename_i l
  intro G w v hs hv
  cases hv with
  |agg _ vs dA hh=>
   obtain⟨G',a,b,c,d⟩:=vo AX l s G w vs.toList hs (by simpa using dA) λi p q hp hq=>hh i p q hp (by simpa using hq)
   exact⟨G',a,b,.agg _ vs (by simpa using c) λi p q hp hq=>d i p q hp (by simpa using hq)⟩
 ·exact AX s _
theorem DO(s:St)(x:AV):rR s x (OZ x s).2 (OZ x s).1:=by
 unfold OZ
 split
 ·rename_i l
  intro G w v hs hv
  cases hv with
  |ec _ vs dA hh=>
   obtain⟨G',a,b,c,d⟩:=vo AY l s G w vs.toList hs (by simpa using dA) λi p q hp hq=>hh i p q hp (by simpa using hq)
   exact⟨G',a,b,.ec _ vs (by simpa using c) λi p q hp hq=>d i p q hp (by simpa using hq)⟩
 ·exact AY s _
end
end Go.Am
end
section
namespace Go.Am
open Go.RowKit
structure Ins where
 dst:Option Nat
 op:Op
 guard:Option (Nat×Bool)
def l6(ops:List Oper)(o:Oper):Ins:=⟨o.dst,o.op,match o.guard with
 |none=>none
 |some (j,want)=>match(ops[j]?).bind (·.dst)with
  |some d=>some (d,want)
  |none=>some (0,want)⟩
def ins(ops:List Oper):List Ins:=ops.map (l6 ops)
def nS(ops:List Oper):Bool:=ops.all λo=>match o.guard with
 |none=>true
 |some (j,_)=>((ops[j]?).bind (·.dst)).isSome
def qj(N:Nat)(ops:List Oper):Bool:=ops.all λo=>mE N o.dst
def FE(g:Option (Nat×Bool))(bI:Env)(A B:Prop):Prop:=match g with
 |none=>A
 |some (d,want)=>match bH bI d with
  |some (.bool b)=>(b=want->A)/\(b=!want->B)
  |some (.ec [])=>B
  |_=>False
def ows(P:Program)(op:Op)(K:AV->St->Prop)(bI:Env)(s:St):Prop:=
 match ga op with
 |some (f,args)=>match oper bI f,opers bI args with
  |some (.fn g fQ),some l=>enters P g=true/\dQ P g (l++fQ) s K
  |some (.kK id),some l=>iY P id l s K
  |_,_=>False
 |none=>match iX P op bI s with
  |some (v,s')=>K v s'
  |none=>False
section
variable {P:Program} {N:Nat} {ρ:Option Nat} {Q:Exit->Env->St->Prop} {bI:Env} {s:St}
def Aj:List Nat->List AV->Env
 |k::r,x::l=>(k,x)::Aj r l
 |_,_=>[]
structure ZE (s' s:St):Prop where
 heap: ∀id b,bH s'.heap id=some b->bH s.heap id=some b
 bT:s.bT<=s'.bT
 gr: ∀id,bH s.heap id=some .gr->bH s'.heap id=some .gr
theorem ZE.refl(s:St):ZE s s:=⟨λ_ _ h=>h,eF _,λ_ h=>h⟩
end
end Go.Am
end
section
namespace Go.Am
open Go.RowKit
inductive Step where
 |iD (i:Nat) (note:Bool)
 |ir (i:Nat) (wS:List Nat)
 |alloc (i:Nat)
 deriving DecidableEq
def Step.idx:Step->Nat
 |.iD i _=>i
 |.ir i _=>i
 |.alloc i=>i
def Step.waits:Step->Bool
 |.iD _ _=>false
 |_=>true
def Step.HL:Step->Bool
 |.alloc _=>true
 |_=>false
def fV:Op->Bool
 |.move _|.assign _|.pick _ _ _|.build _ _|.buildSlice _ _ _|.load _ _|.nilCheck _|.binOp _ _ _ _ _|.unOp _ _ _|.convert _ _ _|.makeFunc _ _ _|.slice _ _ _ _ _
 |.fieldAddr _ _ _|.field _ _ _|.indexAddr _ _ _|.index _ _ _|.extract _ _=>true
 |.call ⟨.builtin .len,_,_⟩|.call ⟨.builtin .min,_,_⟩|.call ⟨.builtin .max,_,_⟩=>true
 |_=>false
def kh:Op->Bool
 |.move _|.assign _|.pick _ _ _|.build _ _|.buildSlice _ _ _|.nilCheck _|.binOp _ _ _ _ _|.unOp _ _ _|.convert _ _ _|.makeFunc _ _ _
 |.fieldAddr _ _ _|.field _ _ _|.index _ _ _|.extract _ _=>true
 |.call ⟨.builtin .len,_,_⟩|.call ⟨.builtin .min,_,_⟩|.call ⟨.builtin .max,_,_⟩=>true
 |_=>false
theorem oS{P:Program}{op:Op}{bI:Env}{s s':St}{x:AV}(hl:fV op=true)(h:iX P op bI s=some (x,s')):s'=s:=by
 cases op<;>simp only[fV]at hl<;>first|(cases hl;done)|skip
 case call c=>
  obtain⟨callee,args,ts⟩:=c
  cases callee with
  |value f=>cases hl
  |invoke r m=>cases hl
  |builtin b=>
   cases b<;>simp only[]at hl<;>first|(cases hl;done)|skip
   all_goals
    simp only[iX]at h
    split at h<;>first|exact(dL h).2|cases h
 case makeFunc fn first fQ=>
  cases fn<;>simp only[iX]at h<;>first|(cases h;done)|skip
  split at h
  ·split at h
   ·cases h;rfl
   ·cases h
  ·cases h
 all_goals
  simp only[iX]at h
  first
   |exact(dL h).2
   |(repeat' split at h)<;>first|exact(dL h).2|(cases h;done)|(cases h;rfl)
theorem mI{P:Program}{op:Op}{bI:Env}{s s2:St}{x:AV}(hl:kh op=true)(h:iX P op bI s=some (x,s)):iX P op bI s2=some (x,s2):=by
 have k: ∀{v:Option AV},gu v s=some (x,s)->gu v s2=some (x,s2):=λh=>by rw[(dL h).1];rfl
 cases op<;>simp only[kh]at hl<;>first|(cases hl;done)|skip
 case call c=>
  obtain⟨callee,args,ts⟩:=c
  cases callee with
  |value f=>cases hl
  |invoke r m=>cases hl
  |builtin b=>
   cases b<;>simp only[]at hl<;>first|(cases hl;done)|skip
   all_goals
    simp only[iX]at h |-
    split at h<;>first|exact k h|cases h
 case makeFunc fn first fQ=>
  cases fn<;>simp only[iX]at h |- <;>first|(cases h;done)|skip
  split at h
  ·rename_i h0
   rw[dD h0]
   split at h
   ·rename_i l hl
    cases h;simp only[hl]
   ·cases h
  ·cases h
 case pick c a b=>
  simp only[iX]at h |-
  split at h
  ·rename_i t ht
   cases t
   ·simp only[YV,if_false]at h |-;exact k h
   ·simp only[u0]at h |-;exact k h
  ·cases h
 all_goals
  simp only[iX]at h |-
  first
   |exact k h
   |(split at h<;>first|exact k h|(cases h;rfl)|(cases h;done)|(split at h<;>first|exact k h|(cases h;rfl)|(cases h;done)|(split at h<;>first|exact k h|(cases h;rfl)|(cases h;done))))
def QE:Operand->List Nat
 |.tmp t=>[t]
 |_=>[]
def iF(o:Oper):List Nat:=o.op.operands.toList.flatMap QE
def iR(ts:List Nat)(bI:Env):Env:=ts.filterMap λt=>(bH bI t).map λx=>(t,x)
theorem AZ{ts:List Nat}{bI:Env}{t:Nat}{x:AV}(h:bH (iR ts bI) t=some x):t∈ts/\bH bI t=some x:=by
 induction ts with
 |nil=>simp[iR,cV,cM]at h
 |cons k r ih=>
  simp only[iR,List.filterMap_cons]at h
  cases hk:bH bI k with
  |none=>
   simp only[hk,RJ]at h
   obtain⟨a,b⟩:=ih h
   exact⟨by simp[a],b⟩
  |some y=>
   simp only[hk,gy,cV,cM]at h
   split at h
   ·rename_i e;subst e;cases h;exact⟨by simp,hk⟩
   ·obtain⟨a,b⟩:=ih h
    exact⟨by simp[a],b⟩
def wc(l:List Oper)(o:Oper):List Nat:=match o.guard with
 |none=>[]
 |some (j,_)=>match(l[j]?).bind (·.dst)with
  |some d=>[d]
  |none=>[]
def qk:List (Nat×Env×AV)->Nat->Option (Env×AV)
 | [],_=>none
 |(k,e,v)::r,i=>if k=i then some (e,v)else qk r i
def sN(P:Program)(l:List Oper)(tr:List (Nat×Env×AV))(s:St):List Nat->Prop
 | []=>True
 |j::r=>(match qk tr j,l[j]? with
  |some (e,v),some o=>iX P o.op e s=some (v,s)
  |_,_=>True)/\sN P l tr s r
theorem yf{P:Program}{l:List Oper}{tr:List (Nat×Env×AV)}{s:St}{e:Env}{v:AV}{o:Oper}: ∀{c:List Nat},sN P l tr s c-> ∀j∈c,qk tr j=some (e,v)->l[j]? =some o->iX P o.op e s=some (v,s)
 | [],_,j,hj,_,_=>by cases hj
 |k::r,⟨h1,h2⟩,j,hj,hf,hl=>by
  rcases mU.1 hj with rfl|hj
  ·simp only[hf,hl]at h1;exact h1
  ·exact yf h2 j hj hf hl
def XO(l:List Oper)(o:Oper)(bI:Env)(A:Prop)(B:Prop):Prop:=FE (l6 l o).guard bI A B
def zX(P:Program)(l:List Oper)(K:Env->St->Prop):List Step->List (Nat×Env×AV)->Env->St->Prop
 | [],_,bI,s=>K bI s
 |.iD i note::r,tr,bI,s=>match l[i]? with
  |some o=>XO l o bI (match iX P o.op (iR (iF o) bI) s with
    |some (v,_)=>zX P l K r (if note then(i,iR (iF o) bI,v)::tr else tr) (fF o.dst v bI) s
    |none=>False) (zX P l K r tr (fF o.dst (.ec []) bI) s)
  |none=>False
 |.ir i wS::r,tr,bI,s=>match l[i]? with
  |some o=>XO l o bI (ows P o.op (λv s'=>sN P l tr s' wS/\zX P l K r tr (fF o.dst v bI) s') (iR (iF o) bI) s) (zX P l K r tr (fF o.dst (.ec []) bI) s)
  |none=>False
 |.alloc i::r,tr,bI,s=>match l[i]? with
  |some o=>match iX P o.op [] s with
   |some (v,s')=>zX P l K r tr (fF o.dst v bI) s'
   |none=>False
  |none=>False
def direct(o:Oper):List Nat:=(o.after.toList.filter (Region.binds .any)).map (·.on)
def iG(pre:List (List Nat))(i:Nat):List Nat:=pre.getD i []
def iH(l:List Oper)(i:Nat):Option Nat:=(l[i]?).bind (·.dst)
structure gM (X:Nat->Nat->Prop) (P:Program) (N:Nat) (l:List Oper) (pre:List (List Nat)) (bN:List Step):Prop where
 LA: ∀i∈List.range l.length,∀o∈l[i]?,(∀p∈direct o,p<i)/\ ∀p∈iG pre i,p<i/\(p∈direct o\/ ∃d∈direct o,p∈iG pre d)
 Vz: ∀i∈List.range l.length,∀j∈List.range l.length,∀t∈iH l i,iH l j=some t->i=j
 JD:qj N l=true
 ZF:nS l=true
 reads: ∀i∈List.range l.length,∀o∈l[i]?,∀t∈iF o++wc l o,(∃u∈iG pre i,iH l u=some t)\/(∀u∈List.range l.length,iH l u=some t->i∈iG pre u)
 perm:(∀st∈bN,st.idx<l.length)/\(∀i∈List.range l.length,i∈bN.map Step.idx)/\(bN.map Step.idx).Nodup
 LB: ∀k∈List.range bN.length,∀st∈bN[k]?,∀p∈iG pre st.idx,p∈(bN.take k).map Step.idx
 waits: ∀k∈List.range bN.length,∀st∈bN[k]?,st.waits=true-> ∀st2∈bN.drop (k+1),st2.HL=true\/st.idx∈iG pre st2.idx\/X st.idx st2.idx
 kinds: ∀st∈bN,∀o∈l[st.idx]?,match st with
  |.iD _ _=>fV o.op=true
  |.ir _ _=>True
  |.alloc _=>(match o.op with|.alloc t=>(vX P t).isSome=true|_=>False)/\o.guard=none/\o.dst.isSome=true
 LC: ∀k∈List.range bN.length,∀st∈bN[k]?,match st with
  |.ir h wS=> ∀st2∈bN.take k,match st2 with
   |.iD j note=> ∀o∈l[j]?,kh o.op=true\/j∈iG pre h\/(note=true/\j∈wS)
   |_=>True
  |_=>True
abbrev LD(P:Program)(N:Nat)(l:List Oper)(pre:List (List Nat))(bN:List Step):Prop:=gM (λ_ _=>False) P N l pre bN
end Go.Am
end
section
namespace Go.Am
open Go.RowKit
section
variable {X:Nat->Nat->Prop} {P:Program} {N:Nat} {ρ:Option Nat} {l:List Oper} {pre:List (List Nat)} {bN:List Step} {K:Env->St->Prop} {ik:Env} {G0:cg} {s0:St} {w0:World}
def jD(ds:List Step):List Nat:=ds.map Step.idx
def Rd(l:List Oper)(pre:List (List Nat))(bI ik:Env)(i t:Nat)(x:AV):Prop:=
 (∃u,u∈iG pre i/\iH l u=some t/\bH bI t=some x)\/((∀u,u<l.length->iH l u=some t->i∈iG pre u)/\bH ik t=some x)
def F6:AV->Bool->Option Bool
 |.bool c,want=>some (c==want)
 |.ec [],_=>some false
 |_,_=>none
def FF(l:List Oper)(pre:List (List Nat))(bI ik:Env)(i:Nat)(o:Oper)(b:Bool):Prop:=match o.guard with
 |none=>b=true
 |some (j,want)=> ∃d x,iH l j=some d/\Rd l pre bI ik i d x/\F6 x want=some b
def VA(P:Program)(l:List Oper)(pre:List (List Nat))(bN:List Step)(bI ik:Env)(tr:List (Nat×Env×AV))(s:St)(i:Nat):Prop:=
 ∃o,l[i]? =some o/\fV o.op=true/\
  ((FF l pre bI ik i o true/\ ∃e v,(∀t x,bH e t=some x->Rd l pre bI ik i t x)/\iX P o.op e s=some (v,s)/\(∀t,o.dst=some t->bH bI t=some v)/\
    ((∃st∈bN,st=.iD i true)->qk tr i=some (e,v)))\/
   (FF l pre bI ik i o false/\ ∀t,o.dst=some t->bH bI t=some (.ec [])))
def HM(P:Program)(l:List Oper)(G:cg)(s:St)(w0 w:World)(tmps:Array Value)(i:Nat):Prop:=
 ∃o t ty z b cs e,l[i]? =some o/\o.op=.alloc ty/\o.dst=some t/\vX P ty=some z/\tmps[t]? =some (.pointer (some ⟨b,0,none⟩))/\w.heap[b]? =some (.cells cs e (0,0))/\
  VL G z.cells cs/\ ¬lZ G s b/\(∀j,G.gP b j=none)/\w0.heap.size<=b
structure pW (P:Program) (N:Nat) (ρ:Option Nat) (l:List Oper) (pre:List (List Nat)) (bN:List Step) (K:Env->St->Prop) (ik:Env) (G0:cg) (s0:St) (w0:World)
  (E:Nat->Prop) (ds σ:List Step) (tr:List (Nat×Env×AV)) (bI:Env) (s:St) (a:Act) (w:World) (G:cg):Prop where
 split:bN=ds++σ
 run:zX P l K σ tr bI s
 iQ:eL G s w
 ext:Ext G0 s0 w0 G s w
 size:a.tmps.size=N
 mg:oM G s a.defers
 known:vZ G ρ
 lt: ∀i,E i->i<l.length
 closed: ∀i,E i-> ∀p∈iG pre i,E p
 sub: ∀i,E i->i∈jD ds\/(.alloc i∈σ/\HM P l G s w0 w a.tmps i)
 wait: ∀st∈ds,st.waits=true->E st.idx
 s1: ∀t x,bH ik t=some x->(∀i,E i->iH l i≠some t)->t<N/\V G x (a.tmps.getD t undef)
 s2: ∀i,E i->i∈jD ds-> ∀t,iH l i=some t-> ∀x,bH bI t=some x->V G x (a.tmps.getD t undef)
 e0: ∀t,(∀i∈jD ds,iH l i≠some t)->bH bI t=bH ik t
 JE: ∀i∈jD ds,¬E i->VA P l pre bN bI ik tr s i
 DP: ∀i j,E i->E j->.alloc i∈σ->.alloc j∈σ->i≠j-> ∀ti tj,iH l i=some ti->iH l j=some tj->a.tmps[ti]?≠a.tmps[tj]?
theorem ki{ds σ:List Step}(hp:gM X P N l pre bN)(h:bN=ds++σ){st:Step}(hm:st∈σ):st.idx ∉ jD ds:=by
 have:=hp.perm.2.2
 rw[h,Dm,List.nodup_append]at this
 exactλhi=>this.2.2 st.idx hi st.idx (jJ.2 ⟨st,hm,rfl⟩) rfl
theorem gE(hp:gM X P N l pre bN){i j t:Nat}(hi:iH l i=some t)(hj:iH l j=some t):i=j:=by
 have lt: ∀{i},iH l i=some t->i<l.length:=λ{i}h=>by
  unfold iH at h
  cases hl:l[i]? with
  |none=>simp[hl]at h
  |some o=>exact(fP.1 hl).1
 exact hp.Vz i (AN.2 (lt hi)) j (AN.2 (lt hj)) t hi hj
theorem F7{i t:Nat}(h:iH l i=some t):i<l.length:=by
 unfold iH at h
 cases hl:l[i]? with
 |none=>simp[hl]at h
 |some o=>exact(fP.1 hl).1
theorem gv{i:Nat}{o:Oper}(h:l[i]? =some o):iH l i=o.dst:=by simp[iH,h]
theorem ql(hp:gM X P N l pre bN){ds σ:List Step}{st:Step}(h:bN=ds++st::σ): ∀p∈iG pre st.idx,p∈jD ds:=by
 intro p jN
 have hk:bN[ds.length]? =some st:=by rw[h];simp
 have:=hp.LB ds.length (by rw[AN,h];simp) st hk p jN
 rw[h]at this
 simpa[jD]using this
theorem kA(hp:gM X P N l pre bN){ds σ:List Step}(h:bN=ds++σ){i:Nat}(hi:i∈jD ds): ∀p∈iG pre i,p∈jD ds:=by
 intro p jN
 obtain⟨st,iz,rfl⟩:=jJ.1 hi
 obtain⟨d1,d2,rfl⟩:=List.append_of_mem iz
 have:=ql hp (ds:=d1) (σ:=d2++σ) (by rw[h];simp) p jN
 simp only[jD,Dm,lr]
 exact .inl this
theorem B9(hp:gM X P N l pre bN){E:Nat->Prop}{ds σ:List Step}{tr:List (Nat×Env×AV)}{bI:Env}{s:St}{a:Act}{w:World}{G:cg}
  (h:pW P N ρ l pre bN K ik G0 s0 w0 E ds σ tr bI s a w G) {i t:Nat} {x:AV} (hr:Rd l pre bI ik i t x) (kw: ∀p∈iG pre i,E p) (hd: ∀p∈iG pre i,p∈jD ds) (qU: ¬E i):
  t<N/\V G x (a.tmps.getD t undef):=by
 rcases hr with⟨u,hu,LF,hx⟩|⟨iP,hx⟩
 ·refine⟨?_,h.s2 u (kw u hu) (hd u hu) t LF x hx⟩
  have hl:=F7 LF
  have:=hp.JD
  simp only[qj,pT]at this
  obtain⟨o,ho⟩: ∃o,l[u]? =some o:=⟨_,dH hl⟩
  have h2:=this o (gz ho)
  rw[gv ho]at LF
  rw[LF]at h2
  simpa[mE]using h2
 ·refine h.s1 t x hx λj hj Ur=>?_
  exact qU (h.closed j hj i (iP j (h.lt j hj) Ur))
theorem A0(hp:gM X P N l pre bN){E:Nat->Prop}{ds σ:List Step}{tr:List (Nat×Env×AV)}{bI:Env}{s:St}{a:Act}{w:World}{G:cg}
  (h:pW P N ρ l pre bN K ik G0 s0 w0 E ds σ tr bI s a w G) {i t:Nat} {x:AV} {o:Oper} (ho:l[i]? =some o) (ht:t∈iF o++wc l o) (hx:bH bI t=some x) (qU:i ∉ jD ds):Rd l pre bI ik i t x:=by
 have sO:=(fP.1 ho).1
 rcases hp.reads i (AN.2 sO) o ho t ht with⟨u,hu,LF⟩|iP
 ·exact .inl ⟨u,hu,LF,hx⟩
 ·refine .inr ⟨λu hu LF=>iP u (AN.2 hu) LF,?_⟩
  rw[<-h.e0 t λj hj Ur=>?_]
  ·exact hx
  ·exact qU (kA hp h.split hj i (iP j (AN.2 (F7 Ur)) Ur))
theorem Rd.put(hp:gM X P N l pre bN){ds:List Step}{bI env':Env}{i j t:Nat}{x:AV}(eV: ∀t,iH l i≠some t->bH env' t=bH bI t)(hj: ∀p∈iG pre j,p∈jD ds)(hi:i ∉ jD ds)
  (h:Rd l pre bI ik j t x):Rd l pre env' ik j t x:=by
 rcases h with⟨u,hu,LF,hx⟩|h
 ·refine .inl ⟨u,hu,LF,?_⟩
  rw[eV t λBa=>hi (by rw[gE hp Ba LF];exact hj u hu)]
  exact hx
 ·exact .inr h
theorem FF.put(hp:gM X P N l pre bN){ds:List Step}{bI env':Env}{i j:Nat}{o:Oper}{b:Bool}(eV: ∀t,iH l i≠some t->bH env' t=bH bI t)(hj: ∀p∈iG pre j,p∈jD ds)(hi:i ∉ jD ds)
  (h:FF l pre bI ik j o b):FF l pre env' ik j o b:=by
 unfold FF at h |-
 split at h
 ·exact h
 ·obtain⟨d,c,h1,h2,h3⟩:=h
  exact⟨d,c,h1,h2.put hp eV hj hi,h3⟩
theorem gi(d:Option Nat)(v:AV)(bI:Env)(t:Nat):bH (fF d v bI) t=if d=some t then some v else bH bI t:=by
 cases d with
 |none=>simp[fF]
 |some d=>simp only[fF,eO,Option.some.injEq]
theorem yg{op:Op}{e:Env}{s s':St}{v:AV}(hl:fV op=true)(hm: ∀id b,bH s.heap id=some b->bH s'.heap id=some b)(h:iX P op e s=some (v,s)):iX P op e s'=some (v,s'):=by
 have k: ∀{x y:Option AV},(∀v,x=some v->y=some v)->gu x s=some (v,s)->gu y s'=some (v,s'):=λCa h=>by
  rw[Ca v (dL h).1];rfl
 by_cases iz:kh op=true
 ·exact mI iz h
 ·cases op<;>simp only[fV]at hl<;>first|(cases hl;done)|(exact absurd rfl iz)|skip
  case load t p=>
   simp only[iX]at h |-
   split at h
   ·refine k (λv hv=>?_) h
    unfold pJ na at hv |-
    rename_i q _
    cases q<;>simp only at hv |- <;>first|exact hv|skip
    rename_i id el off _
    cases hg:bH s.heap id with
    |none=>simp[hg]at hv
    |some b=>rw[hm id b hg];rw[hg]at hv;exact hv
   ·cases h
  case slice t x lo hi mx=>
   simp only[iX]at h |-
   split at h
   ·refine k (λv hv=>?_) h
    unfold oL at hv |-
    rename_i q _
    cases q<;>simp only at hv |- <;>first|exact hv|skip
    ·rename_i id bL len _
     cases he:eh P t with
     |none=>simp[he]at hv
     |some e'=>
      rw[he]at hv
      simp only at hv |-
      cases hg:bH s.heap id with
      |none=>simp[hg]at hv
      |some b=>rw[hm id b hg];rw[hg]at hv;exact hv
    ·rename_i id bL len cap _
     cases he:eh P t with
     |none=>simp[he]at hv
     |some e'=>
      rw[he]at hv
      simp only at hv |-
      cases hg:bH s.heap id with
      |none=>simp[hg]at hv
      |some b=>rw[hm id b hg];rw[hg]at hv;exact hv
   ·cases h
  case indexAddr t x i=>
   simp only[iX]at h |-
   split at h
   ·refine k (λv hv=>?_) h
    unfold eX at hv |-
    rename_i q j _ _
    cases j<;>simp only at hv |- <;>first|exact hv|skip
    cases he:eh P t with
    |none=>
     rw[he]at hv
     simp only at hv |-
     cases ha:wJ P t with
     |none=>rw[ha]at hv;exact hv
     |some me=>
      obtain⟨m,e⟩:=me
      rw[ha]at hv
      simp only at hv |-
      cases hz:dr P e with
      |none=>rw[hz]at hv;exact hv
      |some sz=>
       rw[hz]at hv
       simp only at hv |-
       split at hv
       case isFalse=>cases hv
       rename_i hc
       rw[dD hc]
       cases q<;>simp only at hv |- <;>first|exact hv|skip
       rename_i id el off _
       cases hb:Nat.blt 8 m with
       |false=>rw[hb]at hv;exact hv
       |true=>
        rw[hb]at hv
        simp only[cS]at hv |-
        cases hg:bH s.heap id with
        |none=>simp[hg]at hv
        |some b=>rw[hm id b hg];rw[hg]at hv;exact hv
    |some e'=>
     rw[he]at hv
     simp only at hv |-
     cases q<;>simp only at hv |- <;>first|exact hv|skip
     rename_i id bL len _
     cases hg:bH s.heap id with
     |none=>simp[hg]at hv
     |some b=>rw[hm id b hg];rw[hg]at hv;exact hv
   ·cases h
  case call c=>
   obtain⟨callee,args,ts⟩:=c
   cases callee with
   |value f=>cases hl
   |invoke r m=>cases hl
   |builtin b=>cases b<;>simp only[]at hl<;>first|(cases hl;done)|(exact absurd rfl iz)
theorem wg{s:St}{w:World}{G:cg}(hs:eL G s w)(b:gD): ∀id c,bH s.heap id=some c->bH ((s.bT,b)::s.heap) id=some c:=λid c hg=>by
 simp only[cV,cM]
 rw[dM (λe=>by
  subst e
  have:=hs.lt _ _ hg
  omega)]
 exact hg
theorem HM.later{s s':St}{w w':World}{G G':cg}{tmps QF:Array Value}{i:Nat}(hs:eL G s w)(h:HM P l G s w0 w tmps i)(hx:Ext G s w G' s' w')
  (ht: ∀t,iH l i=some t->QF[t]? =tmps[t]?):HM P l G' s' w0 w' QF i:=by
 obtain⟨o,t,ty,z,b,cs,e,h1,h2,h3,h4,h5,h6,h8,h9,VB,ZG⟩:=h
 have hb:b<w.heap.size:=(Qr.1 h6).1
 refine⟨o,t,ty,z,b,cs,e,h1,h2,h3,h4,?_,?_,h8.mono hx.le,?_,?_,ZG⟩
 ·rw[ht t (by rw[gv h1];exact h3)];exact h5
 ·rw[hx.keep b hb h9];exact h6
 ·rintro⟨id,blk,r,q1,q2,q3⟩
  rcases hx.iW id r q2 with h|h|h
  ·rcases hx.ids id blk q1 with⟨b0,DE⟩|KC
   ·exact h9 ⟨id,b0,r,DE,h,q3⟩
   ·rw[hs.ct id KC]at h;cases h
  ·omega
  ·rw[q3]at h;exact h9 h
 ·intro j
  cases hj:G'.gP b j with
  |none=>rfl
  |some u=>
   rcases hx.jA b j u hj with h|h|h
   ·rw[VB j]at h;cases h
   ·omega
   ·exact absurd h h9
theorem eL.VC{s:St}{w:World}{G:cg}(hs:eL G s w)(hx:Ext G0 s0 w0 G s w){b:Nat}{cs:Array Value}{e:TypeId}{z:AV}(hw:w.heap[b]? =some (.cells cs e (0,0)))(hv:VL G z.cells cs)
  (rQ: ¬lZ G s b) (hi: ∀j,G.gP b j=none) (hb:w0.heap.size<=b) (h0:0<z.cells.length) (jz:z.cells.all AV.cX=true) (hd: ∀id,bH s0.heap id=some .gr->id≠s.bT):
  eL (G.put s.bT ⟨b,0,z.cells.length,cs.size⟩) ⟨(s.bT,.cells z.cells.length [z])::s.heap,s.bT+1⟩ w/\
  Ext G0 s0 w0 (G.put s.bT ⟨b,0,z.cells.length,cs.size⟩) ⟨(s.bT,.cells z.cells.length [z])::s.heap,s.bT+1⟩ w/\sr G (G.put s.bT ⟨b,0,z.cells.length,cs.size⟩):=by
 have eE:sr G (G.put s.bT ⟨b,0,z.cells.length,cs.size⟩):=.put (hs.ct _ (eF _))
 have jy: ∀id bb,bH ((s.bT,gD.cells z.cells.length [z])::s.heap) id=some bb->(id=s.bT/\bb=.cells z.cells.length [z])\/(id≠s.bT/\bH s.heap id=some bb):=λid bb hg=>by
  simp only[cV,cM]at hg
  split at hg
  ·cases hg;exact .inl ⟨by omega,rfl⟩
  ·exact .inr ⟨by omega,hg⟩
 have gQ: ∀id,id≠s.bT->(G.put s.bT ⟨b,0,z.cells.length,cs.size⟩).own id=G.own id:=λid eV=>by simp[cg.put,eV]
 have mD:(G.put s.bT ⟨b,0,z.cells.length,cs.size⟩).own s.bT=some ⟨b,0,z.cells.length,cs.size⟩:=by simp[cg.put]
 refine⟨⟨hs.gP,λid bb hg=>?_,λid fG b1 b2 r1 r2 h1 h2 o1 o2 eV=>?_,λid bb r o hg ho=>?_,λid jT=>?_,λid bb hg=>?_⟩,
  ⟨hx.le.trans eE,hx.os,hx.tape,hx.output,hx.size,hx.keep,hx.jA,λid r h=>?_,λid bb hg=>?_,vU hx.bT (Nat.le_succ _),λid jT=>?_,λid hl ho=>by have:=hx.bT;rw[gQ id (by omega)];exact hx.stay id hl ho,hx.drawn⟩,eE⟩
 ·rcases jy id bb hg with⟨rfl,rfl⟩|⟨eV,hg⟩
  ·exact .inl ⟨_,_,mD,hw,.cells _ _ _ _ rfl rfl h0 (by simp) (by simpa[dn]using jz) (by simp[hv.1]) λk x hx=>by
    simp[dn]at hx
    obtain⟨u,e1,e2⟩:=hv.get hx
    exact⟨u,by simpa using e1,e2.mono eE⟩⟩
  ·rcases hs.heap id bb hg with⟨r,o,e1,e2,e3⟩|⟨e1,e2⟩
   ·exact .inl ⟨r,o,by rw[gQ id eV];exact e1,e2,e3.mono eE⟩
   ·exact .inr ⟨by rw[gQ id eV];exact e1,e2⟩
 ·rcases jy id b1 h1 with⟨rfl,rfl⟩|⟨n1,g1⟩<;>rcases jy fG b2 h2 with⟨rfl,rfl⟩|⟨n2,g2⟩
  ·exact absurd rfl eV
  ·rw[mD]at o1;cases o1
   rw[gQ _ n2]at o2
   exactλe=>rQ ⟨fG,b2,r2,g2,o2,e.symm⟩
  ·rw[mD]at o2;cases o2
   rw[gQ _ n1]at o1
   exactλe=>rQ ⟨id,b1,r1,g1,o1,e⟩
  ·rw[gQ _ n1]at o1;rw[gQ _ n2]at o2
   exact hs.apart id fG b1 b2 r1 r2 g1 g2 o1 o2 eV
 ·rcases jy id bb hg with⟨rfl,rfl⟩|⟨n1,g1⟩
  ·rw[mD]at ho;cases ho;exact hi o
  ·rw[gQ _ n1]at ho;exact hs.clear id bb r o g1 ho
 ·rw[gQ id (by simp at jT;omega)];exact hs.ct id (by simp at jT;omega)
 ·show id<s.bT+1
  rcases jy id bb hg with⟨rfl,rfl⟩|⟨_,g⟩
  ·omega
  ·have:=hs.lt id bb g;omega
 ·by_cases jT:id=s.bT
  ·subst jT;rw[mD]at h;cases h;exact .inr (.inl hb)
  ·rw[gQ id jT]at h;exact hx.iW id r h
 ·rcases jy id bb hg with⟨rfl,rfl⟩|⟨_,g⟩
  ·exact .inr hx.bT
  ·exact hx.ids id bb g
 ·simp only[cV,cM]
  rw[dM (λe=>hd id jT e.symm)]
  exact hx.gr id jT
theorem qm(hp:gM X P N l pre bN){st st2:Step}(h1:st∈bN)(h2:st2∈bN)(h:st.idx=st2.idx):st=st2:=by
 obtain⟨i,hi,rfl⟩:=pH h1
 obtain⟨j,hj,rfl⟩:=pH h2
 have hn:=hp.perm.2.2
 rw[List.nodup_iff_pairwise_ne]at hn
 have ZH:i=j:=by
  have h':(bN.map Step.idx)[i]? =(bN.map Step.idx)[j]?:=by simp[hi,hj,h]
  exact(List.getElem?_inj (by simpa using hi) (by rw[List.nodup_iff_pairwise_ne];exact hn)).1 h'
 subst ZH;rfl
theorem XP(hp:gM X P N l pre bN)(h0:eL G0 s0 w0): ∀(σ:List Step){E:Nat->Prop}{ds:List Step}{tr:List (Nat×Env×AV)}{bI:Env}{s:St}{a:Act}{w:World}{G:cg},
  pW P N ρ l pre bN K ik G0 s0 w0 E ds σ tr bI s a w G->
  ∃ds' σ' Ak env' s' G',pW P N ρ l pre bN K ik G0 s0 w0 E ds' σ' Ak env' s' a w G'/\ ∀st r,σ'=st::r->st.waits=true/\ ¬E st.idx
 | [],E,ds,tr,bI,s,a,w,G,h=>⟨ds,[],tr,bI,s,G,h,λ_ _ e=>by cases e⟩
 |st::r,E,ds,tr,bI,s,a,w,G,h=>by
  have ku:st∈bN:=by rw[h.split];simp
  have O0:=ql hp h.split
  have qQ:st.idx ∉ jD ds:=ki hp h.split (by simp)
  have fB:=h.run
  have gq:=hp.perm.1 st ku
  obtain⟨o,ho⟩: ∃o,l[st.idx]? =some o:=⟨_,dH gq⟩
  have lG:=gv ho
  have Cb:bN=(ds++[st])++r:=by rw[h.split];simp
  have rS: ∀j,j∈jD (ds++[st])↔j∈jD ds\/j=st.idx:=λj=>by simp[jD]
  cases st with
  |iD i note=>
   simp only[Step.idx]at *
   simp only[zX,ho]at fB
   have vp:fV o.op=true:=hp.kinds _ ku o ho
   have Us: ¬E i:=λhE=>by
     rcases h.sub i hE with hi|⟨hi,_⟩
     ·exact qQ hi
     ·have:=qm hp (st:=.alloc i) (st2:=.iD i note) (by rw[h.split];simp only[lr];exact .inr hi) ku rfl
      cases this
   have go: ∀(env':Env)(Ak:List (Nat×Env×AV)),(∀t,iH l i≠some t->bH env' t=bH bI t)->(∀j,j≠i->qk Ak j=qk tr j)->zX P l K r Ak env' s->
      VA P l pre bN env' ik Ak s i-> ∃ds' σ' Ak env' s' G',pW P N ρ l pre bN K ik G0 s0 w0 E ds' σ' Ak env' s' a w G'/\ ∀st r,σ'=st::r->st.waits=true/\ ¬E st.idx:=by
     intro env' Ak eV htr HF DQ
     refine XP hp h0 r (ds:=ds++[.iD i note]) (tr:=Ak) (bI:=env') (s:=s) (G:=G) ⟨Cb,HF,h.iQ,h.ext,h.size,h.mg,h.known,h.lt,h.closed,λj hj=>?_,λst2 iz hw=>?_,h.s1,λj hj tv t ht x hx=>?_,λt ht=>?_,λj hj FG=>?_,λi1 j1 h1 h2 h3 h4=>h.DP i1 j1 h1 h2 (by simp[h3]) (by simp[h4])⟩
     ·rcases h.sub j hj with hd|⟨hd,he⟩
      ·exact .inl ((rS j).2 (.inl hd))
      ·rcases mU.1 hd with hd|hd
       ·cases hd
       ·exact .inr ⟨hd,he⟩
     ·rcases lr.1 iz with iz|iz
      ·exact h.wait st2 iz hw
      ·simp at iz;subst iz;cases hw
     ·rcases(rS j).1 tv with tv|rfl
      ·rw[eV t λBa=>Us (by rw[gE hp Ba ht];exact hj)]at hx
       exact h.s2 j hj tv t ht x hx
      ·exact absurd hj Us
     ·rw[eV t λBa=>ht i ((rS i).2 (.inr rfl)) Ba]
      exact h.e0 t λj hj=>ht j ((rS j).2 (.inl hj))
     ·rcases(rS j).1 hj with tv|rfl
      ·obtain⟨oj,q1,q2,q3⟩:=h.JE j tv FG
       have LG: ∀p∈iG pre j,p∈jD ds:=kA hp h.split tv
       have oT:j≠i:=λe=>qQ (e ▸ tv)
       have QG: ∀t,oj.dst=some t->bH env' t=bH bI t:=λt ht=>eV t λBa=>oT (gE hp (by rw[gv q1];exact ht) Ba)
       refine⟨oj,q1,q2,?_⟩
       rcases q3 with⟨g,e,v,p1,p2,p3,p4⟩|⟨g,p1⟩
       ·exact .inl ⟨g.put hp eV LG qQ,e,v,λt x hx=>(p1 t x hx).put hp eV LG qQ,p2,λt ht=>by rw[QG t ht];exact p3 t ht,λiz=>by rw[htr j oT];exact p4 iz⟩
       ·exact .inr ⟨g.put hp eV LG qQ,λt ht=>by rw[QG t ht];exact p1 t ht⟩
      ·exact DQ
   have exec:(match iX P o.op (iR (iF o) bI) s with
      |some (v,_)=>zX P l K r (if note then(i,iR (iF o) bI,v)::tr else tr) (fF o.dst v bI) s
      |none=>False)->FF l pre (fF o.dst .any bI) ik i o true-> ∃ds' σ' Ak env' s' G',pW P N ρ l pre bN K ik G0 s0 w0 E ds' σ' Ak env' s' a w G'/\ ∀st r,σ'=st::r->st.waits=true/\ ¬E st.idx:=by
     intro hx hg
     split at hx
     case h_2=>cases hx
     rename_i v s1 hv
     have VD:=oS vp hv
     subst VD
     have eV: ∀t,iH l i≠some t->bH (fF o.dst v bI) t=bH bI t:=λt ht=>by rw[gi,dM (by rw[<-lG];exact ht)]
     have mW: ∀t,iH l i≠some t->bH (fF o.dst v bI) t=bH (fF o.dst .any bI) t:=λt ht=>by rw[eV t ht,gi,dM (by rw[<-lG];exact ht)]
     refine go _ _ eV (λj hj=>?_) hx ⟨o,ho,vp,.inl ⟨hg.put hp mW O0 qQ,iR (iF o) bI,v,λt x hx=>?_,hv,λt ht=>by rw[gi,dD ht],λiz=>?_⟩⟩
     ·cases note
      ·rfl
      ·simp only[u0,qk];rw[dM (λe=>hj e.symm)]
     ·obtain⟨q1,q2⟩:=AZ hx
      exact(A0 hp h ho (by simp[q1]) q2 qQ).put hp eV O0 qQ
     ·obtain⟨st,iz,rfl⟩:=iz
      have:=qm hp iz ku rfl
      cases this
      simp[qk]
   have tT:(l6 l o).guard=match o.guard with
      |none=>none
      |some (j,want)=>match(l[j]?).bind (·.dst)with
       |some d=>some (d,want)
       |none=>some (0,want):=rfl
   unfold XO at fB
   rw[tT]at fB
   cases DR:o.guard with
   |none=>
     simp only[DR,FE]at fB
     exact exec fB (by unfold FF;rw[DR])
   |some jw=>
     obtain⟨j,want⟩:=jw
     have QH:=(pT.1 hp.ZF) o (gz ho)
     simp only[DR]at QH
     obtain⟨d,hd⟩:=AM.1 QH
     simp only[DR,hd,FE]at fB
     have DS: ∀x,bH bI d=some x->F6 x want=some false->zX P l K r tr (fF o.dst (.ec []) bI) s-> ∃ds' σ' Ak env' s' G',pW P N ρ l pre bN K ik G0 s0 w0 E ds' σ' Ak env' s' a w G'/\ ∀st r,σ'=st::r->st.waits=true/\ ¬E st.idx:=by
      intro x hx ZI R3
      have eV: ∀t,iH l i≠some t->bH (fF o.dst (.ec []) bI) t=bH bI t:=λt ht=>by rw[gi,dM (by rw[<-lG];exact ht)]
      refine go _ _ eV (λ_ _=>rfl) R3 ⟨o,ho,vp,.inr ⟨?_,λt ht=>by rw[gi,dD ht]⟩⟩
      unfold FF;rw[DR]
      exact⟨d,x,hd,(A0 hp h ho (by simp[wc,DR,hd]) hx qQ).put hp eV O0 qQ,ZI⟩
     split at fB
     case h_3=>cases fB
     case h_2=>rename_i hb;exact DS _ hb rfl fB
     rename_i b hb
     have ZJ: ∀v,Rd l pre (fF o.dst v bI) ik i d (.bool b):=λv=>
      (A0 hp h ho (by simp[wc,DR,hd]) hb qQ).put hp (λt ht=>by rw[gi,dM (by rw[<-lG];exact ht)]) O0 qQ
     by_cases Lx:b=want
     ·exact exec (fB.1 Lx) (by
       unfold FF;rw[DR]
       exact⟨d,.bool b,hd,ZJ _,by simp[Lx,F6]⟩)
     ·exact DS _ hb (by simp[F6,Lx]) (fB.2 (by cases b<;>cases want<;>simp_all))
  |ir i wS=>
   by_cases hE:E i
   · exfalso
     rcases h.sub i hE with hi|⟨hi,_⟩
     ·exact qQ hi
     ·have:=qm hp (st:=.alloc i) (st2:=.ir i wS) (by rw[h.split];simp only[lr];exact .inr hi) ku rfl
      cases this
   · exact⟨ds,_,tr,bI,s,G,h,λst r' e=>by cases e;exact⟨rfl,hE⟩⟩
  |alloc i=>
   by_cases hE:E i
   ·
     simp only[Step.idx]at *
     rcases h.sub i hE with hi|⟨_,he⟩
     ·exact absurd hi qQ
     ·obtain⟨o',t,ty,z,b,cs,e,h1,h2,h3,h4,h5,h6,h8,h9,VB,ZG⟩:=he
      rw[ho]at h1;cases h1
      simp only[zX,ho,h2,iX,h4]at fB
      unfold BX at fB
      split at fB
      case h_2=>cases fB
      rename_i v s1 hq
      split at hq
      case isFalse=>cases hq
      rename_i hc
      cases hq
      obtain⟨q1,q2,q3⟩:=h.iQ.VC h.ext h6 h8 h9 VB ZG hc.1 hc.2 (λid jT e=>by
       subst e
       have h1:=h0.lt _ _ jT
       have h2:=h.ext.bT
       omega)
      have hdt:iH l i=some t:=by rw[lG];exact h3
      have eV: ∀t',iH l i≠some t'->bH (fF o.dst (.mp s.bT 0 0) bI) t'=bH bI t':=λt' ht=>by rw[gi,dM (by rw[<-lG];exact ht)]
      refine XP hp h0 r (ds:=ds++[.alloc i]) ⟨Cb,fB,q1,q2,h.size,?_,h.known.le q3,h.lt,h.closed,λj hj=>?_,λst2 iz hw=>?_,λt' x hx hn=>?_,λj hj tv t' ht x hx=>?_,λt' ht=>?_,λj hj FG=>?_,λi1 j1 h1 h2 h3 h4=>h.DP i1 j1 h1 h2 (by simp[h3]) (by simp[h4])⟩
      ·have: ∀{dd:List Deferred},oM G s dd->oM (G.put s.bT ⟨b,0,z.cells.length,cs.size⟩) ⟨(s.bT,.cells z.cells.length [z])::s.heap,s.bT+1⟩ dd:=by
        intro dd
        induction dd with
        |nil=>intro _;trivial
        |cons d dd ih=>
         rintro⟨⟨id,r',a1,a2,a3,a4⟩,hr⟩
         refine⟨⟨id,r',?_,q3.own _ _ a2,a3,a4⟩,ih hr⟩
         simp only[cV,cM]
         rw[dM (λe=>by subst e;rw[h.iQ.ct _ (eF _)]at a2;cases a2)]
         exact a1
       exact this h.mg
      ·rcases h.sub j hj with hd|⟨hd,he⟩
       ·exact .inl ((rS j).2 (.inl hd))
       ·rcases mU.1 hd with hd|hd
        ·cases hd;exact .inl ((rS _).2 (.inr rfl))
        ·refine .inr ⟨hd,?_⟩
         obtain⟨oj,tj,tyj,zj,bj,csj,ej,j1,j2,j3,j4,j5,j6,j8,j9,j10,j11⟩:=he
         refine⟨oj,tj,tyj,zj,bj,csj,ej,j1,j2,j3,j4,j5,j6,j8.mono q3,?_,j10,j11⟩
         have ZK:i≠j:=λe=>by
          subst e
          exact ki hp Cb hd ((rS _).2 (.inr rfl))
         rintro⟨id,blk,r',g1,g2,g3⟩
         by_cases jT:id=s.bT
         ·subst jT
          simp only[cg.put,u0,Option.some.injEq]at g2
          subst g2
          simp only at g3
          subst g3
          exact h.DP i j hE hj (by simp) (by simp[hd]) ZK t tj hdt (by rw[gv j1];exact j3) (by rw[h5,j5])
         ·simp only[cg.put,dM jT]at g2
          simp only[cV,cM]at g1
          rw[dM (λe=>jT e.symm)]at g1
          exact j9 ⟨id,blk,r',g1,g2,g3⟩
      ·rcases lr.1 iz with iz|iz
       ·exact h.wait st2 iz hw
       ·simp at iz;subst iz;exact hE
      ·obtain⟨p1,p2⟩:=h.s1 t' x hx hn
       exact⟨p1,p2.mono q3⟩
      ·rcases(rS j).1 tv with tv|rfl
       ·rw[eV t' λBa=>qQ (by rw[gE hp Ba ht];exact tv)]at hx
        exact(h.s2 j hj tv t' ht x hx).mono q3
       ·rw[hdt]at ht;cases ht
        rw[gi,dD h3]at hx
        cases hx
        rw[xc,h5]
        have:=V.mp (G:=G.put s.bT ⟨b,0,z.cells.length,cs.size⟩) s.bT 0 0 ⟨b,0,z.cells.length,cs.size⟩ (by simp[cg.put])
        simpa using this
      ·rw[eV t' λBa=>ht i ((rS i).2 (.inr rfl)) Ba]
       exact h.e0 t' λj hj=>ht j ((rS j).2 (.inl hj))
      ·rcases(rS j).1 hj with tv|rfl
       ·obtain⟨oj,q4,q5,q6⟩:=h.JE j tv FG
        have LG: ∀p∈iG pre j,p∈jD ds:=kA hp h.split tv
        have oT:j≠i:=λe=>qQ (e ▸ tv)
        have QG: ∀t,oj.dst=some t->bH (fF o.dst (.mp s.bT 0 0) bI) t=bH bI t:=λt ht=>eV t λBa=>oT (gE hp (by rw[gv q4];exact ht) Ba)
        refine⟨oj,q4,q5,?_⟩
        rcases q6 with⟨g,e',v,p1,p2,p3,p4⟩|⟨g,p1⟩
        ·exact .inl ⟨g.put hp eV LG qQ,e',v,λt x hx=>(p1 t x hx).put hp eV LG qQ,yg q5 (wg h.iQ _) p2,λt ht=>by rw[QG t ht];exact p3 t ht,p4⟩
        ·exact .inr ⟨g.put hp eV LG qQ,λt ht=>by rw[QG t ht];exact p1 t ht⟩
       ·exact absurd hE FG
   · exact⟨ds,_,tr,bI,s,G,h,λst r' e=>by cases e;exact⟨rfl,hE⟩⟩
end
end Go.Am
end
section
namespace Go.Am
open Go.RowKit
section
variable {X:Nat->Nat->Prop} {P:Program} {N:Nat} {ρ:Option Nat} {l:List Oper} {pre:List (List Nat)} {bN:List Step} {K:Env->St->Prop} {ik:Env} {G0:cg} {s0:St} {w0:World}
theorem eL.grow{s:St}{w:World}{G:cg}(h:eL G s w)(o:Obj):eL G s (w.alloc o)/\Ext G s w G s (w.alloc o):=by
 refine⟨⟨λb i v hi=>?_,λid b hg=>?_,h.apart,h.clear,h.ct,h.lt⟩,⟨.refl G,rfl,rfl,rfl,by simp,λb hb _=>Below.heap_alloc _ _ _ hb,λ_ _ _ h=>.inl h,λ_ _ h=>.inl h,λ_ _ h=>.inl ⟨_,h⟩,eF _,λ_ h=>h,λ_ _ h=>h,eF _⟩⟩
 ·have hb:=h.sI hi
  rw[vb hb];exact h.gP b i v hi
 ·rcases h.heap id b hg with⟨r,o',e1,e2,e3⟩|e
  ·exact .inl ⟨r,o',e1,by rw[Below.heap_alloc _ _ _ (h.jn hg e1)];exact e2,e3⟩
  ·exact .inr e
theorem HN{p q:Nat->Bool}: ∀{l:List Nat},(∀x∈l,q x=true->p x=true)-> ∀{i},i∈l->p i=true->q i=false->(l.filter q).length<(l.filter p).length
 | [],_,i,hi,_,_=>by cases hi
 |x::r,h,i,hi,hp,hq=>by
  have eE: ∀{l:List Nat},(∀x∈l,q x=true->p x=true)->(l.filter q).length<=(l.filter p).length:=λ{l}h=>by
   induction l with
   |nil=>simp
   |cons y t ih=>
    have ih':=ih λz hz=>h z (by simp[hz])
    simp only[Qv]
    by_cases hy:q y=true
    ·rw[dD hy,dD (h y (by simp) hy)];simpa using ih'
    ·rw[dM hy]
     split
     ·simp only[oG];omega
     ·exact ih'
  simp only[Qv]
  rcases mU.1 hi with rfl|hi
  ·rw[dM (by simp[hq]),dD hp,oG]
   have:=eE (l:=r) λz hz=>h z (by simp[hz])
   omega
  ·have ih:=HN (l:=r) (λz hz=>h z (by simp[hz])) hi hp hq
   by_cases hx:q x=true
   ·rw[dD hx,dD (h x (by simp) hx)];simpa using ih
   ·rw[dM hx]
    split
    ·simp only[oG];omega
    ·exact ih
theorem yh{v:Value}{x:AV}(h:ofValue v=some x):x≠ .any:=by
 unfold ofValue at h
 split at h
 ·split at h
  ·cases h;simp
  ·cases h
 ·unfold xO at h
  split at h<;>cases h<;>simp
theorem Cc{t:Nat}{x:AV}(h:jB P t=some x):x≠ .any:=by
 unfold jB at h
 split at h
 ·exact yh h
 ·cases h
theorem qV{ops:Array Oper}(hl:ops.toList=l){E:Nat->Prop}{ds σ:List Step}{tr:List (Nat×Env×AV)}{bI:Env}{s:St}{a:Act}{w:World}{G:cg}(hp:gM X P N l pre bN)
  (h:pW P N ρ l pre bN K ik G0 s0 w0 E ds σ tr bI s a w G) {i:Nat} {o:Oper} {b:Bool} (hg:FF l pre bI ik i o b) (kw: ∀p∈iG pre i,E p) (hd: ∀p∈iG pre i,p∈jD ds) (qU: ¬E i):
  Region.wanted o (yielded ops a.tmps)=b:=by
 unfold FF at hg
 unfold Region.wanted
 split at hg
 ·rename_i hq;rw[hq];exact hg.symm
 ·rename_i j want hq
  obtain⟨d,x,h1,h2,h3⟩:=hg
  obtain⟨q1,q2⟩:=B9 hp h h2 kw hd qU
  rw[hq]
  unfold F6 at h3
  have VE:yielded ops a.tmps j=match a.tmps.getD d undef with
    |.bool b=>some b
    |_=>none:=by
   unfold yielded
   have:(ops[j]?).bind (·.dst)=some d:=by
    rw[<-h1];unfold iH;rw[<-hl];simp
   rw[this]
   simp only[cK]
   have gq:d<a.tmps.size:=by rw[h.size];exact q1
   rw[xc,Ky gq,Ab]
   generalize a.tmps[d]=v
   cases v<;>rfl
  generalize a.tmps.getD d undef=v at q2 VE
  split at h3
  ·rename_i c want
   cases q2
   simp only at VE
   simp only[VE]
   cases h3
   cases c<;>cases want<;>rfl
  ·cases q2
   simp only at VE
   simp only[VE]
   cases h3
   rfl
  ·cases h3
theorem jb{a:Act}{d:Option Nat}{v:Value}{t:Nat}(h:d≠some t):(a.put d v).tmps.getD t undef=a.tmps.getD t undef/\(a.put d v).tmps[t]? =a.tmps[t]?:=by
 cases d with
 |none=>exact⟨rfl,rfl⟩
 |some d=>
  have eV:d≠t:=λe=>h (by rw[e])
  simp only[Act.put]
  refine⟨?_,U2 eV⟩
  rw[xc,U2 eV,<-xc]
theorem ly{a:Act}{t:Nat}{v:Value}(h:t<a.tmps.size):(a.put (some t) v).tmps.getD t undef=v/\(a.put (some t) v).tmps[t]? =some v:=by
 simp[Act.put,xc,h]
theorem yi(a:Act)(d:Option Nat)(v:Value):(a.put d v).tmps.size=a.tmps.size:=by cases d<;>simp[Act.put]
theorem qn(a:Act)(d:Option Nat)(v:Value):(a.put d v).defers=a.defers:=by cases d<;>rfl
theorem yj{E:Nat->Prop}{ds σ:List Step}{tr:List (Nat×Env×AV)}{bI:Env}{s:St}{a:Act}{w w':World}{G G':cg}(hp:gM X P N l pre bN)(h0:eL G0 s0 w0)
  (h:pW P N ρ l pre bN K ik G0 s0 w0 E ds σ tr bI s a w G) {i:Nat} {o:Oper} (ho:l[i]? =some o) (hi:i∈jD ds) (qU: ¬E i) (kw: ∀p∈iG pre i,E p) {v:Value}
  (hv: ∀t,o.dst=some t-> ∀x,bH bI t=some x->V G' x v) (hs:eL G' s w') (hx:Ext G s w G' s w') {E':Nat->Prop} (hE: ∀j,E' j↔E j\/j=i):
  pW P N ρ l pre bN K ik G0 s0 w0 E' ds σ tr bI s (a.put o.dst v) w' G':=by
 have lG:=gv ho
 refine⟨h.split,h.run,hs,h.ext.trans h0 hx,by rw[yi];exact h.size,by rw[qn];exact h.mg.ext hx,h.known.le hx.le,λj hj=>?_,λj hj p jN=>?_,λj hj=>?_,λst iz hw=>(hE _).2 (.inl (h.wait st iz hw)),λt x xg hn=>?_,λj hj tv t ht x xg=>?_,h.e0,λj hj FG=>?_,λi1 j1 h1 h2 h3 h4 oT t1 t2 d1 d2=>?_⟩
 ·rcases(hE j).1 hj with hj|rfl
  ·exact h.lt j hj
  ·exact(fP.1 ho).1
 ·rcases(hE j).1 hj with hj|rfl
  ·exact(hE p).2 (.inl (h.closed j hj p jN))
  ·exact(hE p).2 (.inl (kw p jN))
 ·rcases(hE j).1 hj with hj|rfl
  ·rcases h.sub j hj with hd|⟨hd,he⟩
   ·exact .inl hd
   ·refine .inr ⟨hd,he.later h.iQ hx λt ht=>(jb λe=>?_).2⟩
    have:=gE hp (by rw[lG];exact e) ht
    subst this;exact qU hj
  ·exact .inl hi
 ·have h1:o.dst≠some t:=λe=>hn i ((hE i).2 (.inr rfl)) (by rw[lG];exact e)
  rw[(jb h1).1]
  obtain⟨q1,q2⟩:=h.s1 t x xg λj hj=>hn j ((hE j).2 (.inl hj))
  exact⟨q1,q2.mono hx.le⟩
 ·rcases(hE j).1 hj with hj|rfl
  ·have h1:o.dst≠some t:=λe=>by
    have:=gE hp (by rw[lG];exact e) ht
    subst this;exact qU hj
   rw[(jb h1).1]
   exact(h.s2 j hj tv t ht x xg).mono hx.le
  ·rw[lG]at ht
   have gq:t<a.tmps.size:=by
    have h2:=(pT.1 hp.JD) o (gz ho)
    rw[ht]at h2
    rw[h.size];simpa[mE]using h2
   rw[ht,(ly gq).1]
   exact hv t ht x xg
 ·exact h.JE j hj λe=>FG ((hE j).2 (.inl e))
 ·have pI: ∀{k tk},E' k->Step.alloc k∈σ->iH l k=some tk->E k/\(a.put o.dst v).tmps[tk]? =a.tmps[tk]?:=λ{k tk}hk LH LI=>by
   rcases(hE k).1 hk with hk|rfl
   ·refine⟨hk,(jb λe=>?_).2⟩
    have:=gE hp (by rw[lG];exact e) LI
    subst this;exact qU hk
   ·exact absurd hi (ki hp h.split LH)
  obtain⟨e1,e2⟩:=pI h1 h3 d1
  obtain⟨e3,e4⟩:=pI h2 h4 d2
  rw[e2,e4]
  exact h.DP i1 j1 e1 e3 h3 h4 oT t1 t2 d1 d2
theorem vq{E:Nat->Prop}{ds r:List Step}{st:Step}{tr:List (Nat×Env×AV)}{bI:Env}{s s':St}{a:Act}{w w':World}{G G':cg}(hp:gM X P N l pre bN)(h0:eL G0 s0 w0)
  (h:pW P N ρ l pre bN K ik G0 s0 w0 E ds (st::r) tr bI s a w G) {o:Oper} (ho:l[st.idx]? =some o) (qU: ¬E st.idx) (kw: ∀p∈iG pre st.idx,E p) {v:Value} {env':Env}
  (eV: ∀t,o.dst≠some t->bH env' t=bH bI t) (hv: ∀t,o.dst=some t-> ∀x,bH env' t=some x->V G' x v) (hs:eL G' s' w') (hx:Ext G s w G' s' w')
  (fB:zX P l K r tr env' s') (VF: ∀j∈jD ds,¬E j-> ∀oj e v,l[j]? =some oj->fV oj.op=true->iX P oj.op e s=some (v,s)->((∃st∈bN,st=.iD j true)->qk tr j=some (e,v))->j ∉ iG pre st.idx->iX P oj.op e s'=some (v,s'))
  {E':Nat->Prop} (hE: ∀j,E' j↔E j\/j=st.idx):
  pW P N ρ l pre bN K ik G0 s0 w0 E' (ds++[st]) r tr env' s' (a.put o.dst v) w' G':=by
 have lG:=gv ho
 have qQ:st.idx ∉ jD ds:=ki hp h.split (by simp)
 have rS: ∀j,j∈jD (ds++[st])↔j∈jD ds\/j=st.idx:=λj=>by simp[jD]
 have mW: ∀t,iH l st.idx≠some t->bH env' t=bH bI t:=λt ht=>eV t (by rw[<-lG];exact ht)
 have ku:st∈bN:=by rw[h.split];simp
 refine⟨by rw[h.split];simp,fB,hs,h.ext.trans h0 hx,by rw[yi];exact h.size,by rw[qn];exact h.mg.ext hx,h.known.le hx.le,λj hj=>?_,λj hj p jN=>?_,λj hj=>?_,λst2 iz hw=>?_,λt x xg hn=>?_,λj hj tv t ht x xg=>?_,λt ht=>?_,λj hj FG=>?_,λi1 j1 h1 h2 h3 h4 oT t1 t2 d1 d2=>?_⟩
 ·rcases(hE j).1 hj with hj|rfl
  ·exact h.lt j hj
  ·exact(fP.1 ho).1
 ·rcases(hE j).1 hj with hj|rfl
  ·exact(hE p).2 (.inl (h.closed j hj p jN))
  ·exact(hE p).2 (.inl (kw p jN))
 ·rcases(hE j).1 hj with hj|rfl
  ·rcases h.sub j hj with hd|⟨hd,he⟩
   ·exact .inl ((rS j).2 (.inl hd))
   ·rcases mU.1 hd with hd|hd
    ·exfalso;rw[<-hd]at qU;exact qU hj
    ·refine .inr ⟨hd,he.later h.iQ hx λt ht=>(jb λe=>?_).2⟩
     have:=gE hp (by rw[lG];exact e) ht
     subst this;exact qU hj
  ·exact .inl ((rS _).2 (.inr rfl))
 ·rcases lr.1 iz with iz|iz
  ·exact(hE _).2 (.inl (h.wait st2 iz hw))
  ·simp at iz;subst iz;exact(hE _).2 (.inr rfl)
 ·have h1:o.dst≠some t:=λe=>hn st.idx ((hE _).2 (.inr rfl)) (by rw[lG];exact e)
  rw[(jb h1).1]
  obtain⟨q1,q2⟩:=h.s1 t x xg λj hj=>hn j ((hE j).2 (.inl hj))
  exact⟨q1,q2.mono hx.le⟩
 ·rcases(hE j).1 hj with hj|rfl
  ·have h1:o.dst≠some t:=λe=>by
    have:=gE hp (by rw[lG];exact e) ht
    subst this;exact qU hj
   rw[(jb h1).1]
   rw[eV t h1]at xg
   rcases(rS j).1 tv with tv|rfl
   ·exact(h.s2 j hj tv t ht x xg).mono hx.le
   ·exact absurd hj qU
  ·rw[lG]at ht
   have gq:t<a.tmps.size:=by
    have h2:=(pT.1 hp.JD) o (gz ho)
    rw[ht]at h2
    rw[h.size];simpa[mE]using h2
   rw[ht,(ly gq).1]
   exact hv t ht x xg
 ·rw[mW t λBa=>ht st.idx ((rS _).2 (.inr rfl)) Ba]
  exact h.e0 t λj hj=>ht j ((rS j).2 (.inl hj))
 ·have Us: ¬E j:=λe=>FG ((hE j).2 (.inl e))
  rcases(rS j).1 hj with tv|rfl
  ·obtain⟨oj,q4,q5,q6⟩:=h.JE j tv Us
   have LG: ∀p∈iG pre j,p∈jD ds:=kA hp h.split tv
   have oT:j≠st.idx:=λe=>qQ (e ▸ tv)
   have QG: ∀t,oj.dst=some t->bH env' t=bH bI t:=λt ht=>mW t λBa=>oT (gE hp (by rw[gv q4];exact ht) Ba)
   have hjp:j ∉ iG pre st.idx:=λe=>Us (kw j e)
   refine⟨oj,q4,q5,?_⟩
   rcases q6 with⟨g,e',v',p1,p2,p3,p4⟩|⟨g,p1⟩
   ·exact .inl ⟨g.put hp mW LG qQ,e',v',λt x hx=>(p1 t x hx).put hp mW LG qQ,VF j tv Us oj e' v' q4 q5 p2 p4 hjp,λt ht=>by rw[QG t ht];exact p3 t ht,p4⟩
   ·exact .inr ⟨g.put hp mW LG qQ,λt ht=>by rw[QG t ht];exact p1 t ht⟩
  ·exact absurd ((hE _).2 (.inr rfl)) FG
 ·have z8:bN=(ds++[st])++r:=by rw[h.split];simp
  have pI: ∀{k tk},E' k->Step.alloc k∈r->iH l k=some tk->E k/\(a.put o.dst v).tmps[tk]? =a.tmps[tk]?:=λ{k tk}hk LH LI=>by
   rcases(hE k).1 hk with hk|rfl
   ·refine⟨hk,(jb λe=>?_).2⟩
    have:=gE hp (by rw[lG];exact e) LI
    subst this;exact qU hk
   ·exact absurd ((rS _).2 (.inr rfl)) (ki (st:=.alloc st.idx) hp z8 LH)
  obtain⟨e1,e2⟩:=pI h1 h3 d1
  obtain⟨e3,e4⟩:=pI h2 h4 d2
  rw[e2,e4]
  exact h.DP i1 j1 e1 e3 (by simp[h3]) (by simp[h4]) oT t1 t2 d1 d2
theorem JF{ops:Array Oper}(hl:ops.toList=l)(hp:gM X P N l pre bN)(h0:eL G0 s0 w0){Q:Exit->Env->St->Prop}(ro:Option Nat){mA:Nat}{dv:Array Bool}{ds r:List Step}{st:Step}{tr:List (Nat×Env×AV)}{bI:Env}{s:St}{a:Act}{w:World}{G:cg}
  (h:pW P N ρ l pre bN K ik G0 s0 w0 (λi=>dv.getD i false=true) ds (st::r) tr bI s a w G) (hw:st.waits=true) {o:Oper} (ho:l[st.idx]? =some o) (qU: ¬dv.getD st.idx false=true) (kw: ∀p∈iG pre st.idx,dv.getD p false=true) (eZ:st.idx ∉ jD ds)
  (hE: ∀j,(dv.setIfInBounds st.idx true).getD j false=true↔dv.getD j false=true\/j=st.idx)
  (go: ∀{ds' σ':List Step}{Ak:List (Nat×Env×AV)}{env':Env}{s':St}{a':Act}{w':World}{G':cg},
    pW P N ρ l pre bN K ik G0 s0 w0 (λj=>(dv.setIfInBounds st.idx true).getD j false=true) ds' σ' Ak env' s' a' w' G'->wpAnyIn (vd ro) 0 P .any ops (ia G0 N ρ s0 w0 Q) mA (dv.setIfInBounds st.idx true) a' w'):
  if Region.wanted o (yielded ops a.tmps)=true then o.wpIn (vd ro) 0 P a w (wpAnyIn (vd ro) 0 P .any ops (ia G0 N ρ s0 w0 Q) mA (dv.setIfInBounds st.idx true)) (ia G0 N ρ s0 w0 Q)else(∀f,o.about P w a.eval=some f->(vd ro).fn f)/\wpAnyIn (vd ro) 0 P .any ops (ia G0 N ρ s0 w0 Q) mA (dv.setIfInBounds st.idx true) (a.put o.dst undef) w:=by
 have lG:=gv ho
 have ku:st∈bN:=by rw[h.split];simp
 have O1: ∀p∈iG pre st.idx,p∈jD ds:=ql hp h.split
 have fB:=h.run
 have ZJ: ∀t∈iF o++wc l o,∀x,bH bI t=some x->t<N/\V G x (a.tmps.getD t undef):=λt ht x hx=>B9 hp h (A0 hp h ho ht hx eZ) kw O1 qU
 cases st with
 |iD _ _=>cases hw
 |ir i wS=>
  simp only[Step.idx]at *
  simp only[zX,ho]at fB
  unfold XO at fB
  have JC:xe G N ρ (iR (iF o) bI) s a w:=⟨h.iQ,λt x hx=>by
   obtain⟨m1,m2⟩:=AZ hx
   obtain⟨r1,r2⟩:=ZJ t (by simp[m1]) x m2
   exact⟨by rw[h.size];exact r1,r2⟩,h.size,h.mg,h.known⟩
  have exec:ows P o.op (λv s'=>sN P l tr s' wS/\zX P l K r tr (fF o.dst v bI) s') (iR (iF o) bI) s->o.wpIn (vd ro) 0 P a w (wpAnyIn (vd ro) 0 P .any ops (ia G0 N ρ s0 w0 Q) mA (dv.setIfInBounds i true)) (ia G0 N ρ s0 w0 Q):=by
   intro ZL
   refine vm (K:=λv s'=>sN P l tr s' wS/\zX P l K r tr (fF o.dst v bI) s') ZL JC ro ?_
   intro v G' x s' w' hv hs hx ⟨hc,hr⟩
   refine go (vq (st:=.ir i wS) hp h0 h ho qU kw (env':=fF o.dst x bI) (λt ht=>by rw[gi,dM ht]) (λt ht y hy=>by rw[gi,dD ht]at hy;cases hy;exact hv) hs hx hr (λj hj FG oj e u q1 q2 q3 q4 q5=>?_) hE)
   by_cases iz:kh oj.op=true
   ·exact mI iz q3
   ·have hk:bN[ds.length]? =some (.ir i wS):=by rw[h.split];simp
    have XQ:=hp.LC ds.length (by rw[AN,h.split];simp) _ hk
    simp only at XQ
    obtain⟨ZM,R4,rfl⟩:=jJ.1 hj
    have QI:ZM∈bN.take ds.length:=by rw[h.split];simpa using R4
    have h3:=XQ ZM QI
    cases ZM with
    |iD j note=>
     simp only at h3
     rcases h3 oj q1 with h4|h4|⟨rfl,h4⟩
     ·exact absurd h4 iz
     ·exact absurd h4 q5
     ·exact yf hc j h4 (q4 ⟨_,xK QI,rfl⟩) q1
    |ir j c=>exact absurd (h.wait _ R4 rfl) FG
    |alloc j=>exact absurd (h.wait _ R4 rfl) FG
  have VG:(l6 l o).guard=match o.guard with
    |none=>none
    |some (j,want)=>match(l[j]?).bind (·.dst)with
     |some d=>some (d,want)
     |none=>some (0,want):=rfl
  rw[VG]at fB
  cases DR:o.guard with
  |none=>
   simp only[DR,FE]at fB
   rw[dD (by simp[Region.wanted,DR])]
   exact exec fB
  |some jw=>
   obtain⟨j,want⟩:=jw
   have QH:=(pT.1 hp.ZF) o (gz ho)
   simp only[DR]at QH
   obtain⟨d,hd⟩:=AM.1 QH
   simp only[DR,hd,FE]at fB
   have DS: ∀x,bH bI d=some x->F6 x want=some false->zX P l K r tr (fF o.dst (.ec []) bI) s->_:=λx hx ZI R3=>by
    have R5:FF l pre bI ik i o false:=by
     unfold FF;rw[DR]
     exact⟨d,x,hd,A0 hp h ho (by simp[wc,DR,hd]) hx eZ,ZI⟩
    have LJ:=qV hl hp h R5 kw O1 qU
    exact(by
     rw[dM (by rw[LJ];simp)]
     exact⟨λ_ _=>trivial,go (vq (st:=.ir i wS) hp h0 h ho qU kw (env':=fF o.dst (.ec []) bI) (λt ht=>by rw[gi,dM ht]) (λt ht y hy=>by rw[gi,dD ht]at hy;cases hy;exact .ec [] #[] rfl (by simp)) h.iQ (.refl _ _ _) R3 (λj hj FG oj e u q1 q2 q3 q4 q5=>q3) hE)⟩:if Region.wanted o (yielded ops a.tmps)=true then o.wpIn (vd ro) 0 P a w (wpAnyIn (vd ro) 0 P .any ops (ia G0 N ρ s0 w0 Q) mA (dv.setIfInBounds i true)) (ia G0 N ρ s0 w0 Q)else(∀f,o.about P w a.eval=some f->(vd ro).fn f)/\wpAnyIn (vd ro) 0 P .any ops (ia G0 N ρ s0 w0 Q) mA (dv.setIfInBounds i true) (a.put o.dst undef) w)
   split at fB
   case h_3=>cases fB
   case h_2=>rename_i hb;exact DS _ hb rfl fB
   rename_i b hb
   have R5:FF l pre bI ik i o (b==want):=by
    unfold FF;rw[DR]
    exact⟨d,.bool b,hd,A0 hp h ho (by simp[wc,DR,hd]) hb eZ,rfl⟩
   have LJ:=qV hl hp h R5 kw O1 qU
   by_cases Lx:b=want
   ·rw[dD (by rw[LJ];simp[Lx])]
    exact exec (fB.1 Lx)
   ·exact DS _ hb (by simp[F6,Lx]) (fB.2 (by cases b<;>cases want<;>simp_all))
 |alloc i=>
  simp only[Step.idx]at *
  simp only[zX,ho]at fB
  obtain⟨k1,k2,k3⟩:=hp.kinds _ ku o ho
  rw[dD (by simp[Region.wanted,k2])]
  split at fB
  case h_2=>cases fB
  rename_i v s' hv
  obtain⟨nx,u,G',w',e1,e2,e3,e4,e5⟩:=vl (a:=a) h.iQ (bI:=[]) (λt x hx=>by simp[cV,cM]at hx) o hv
  have VH: ∀id b,bH s.heap id=some b->bH s'.heap id=some b:=by
   cases yb:o.op with
   |alloc t=>
    rw[yb]at hv k1
    obtain⟨z0,VI⟩:=AM.1 k1
    simp only[iX,VI]at hv
    ·unfold BX at hv
     split at hv
     ·cases hv;exact wg h.iQ _
     ·cases hv
   |_=>rw[yb]at k1;exact k1.elim
  refine⟨λ_ _=>trivial,?_⟩
  rw[Oper.semAt_eq _ _ _ (λc=>by intro e;rw[e]at k1;exact k1.elim),e1]
  have uX:=vq (st:=.alloc i) hp h0 h ho qU kw (v:=u) (env':=fF o.dst v bI) (λt ht=>by rw[gi,dM ht]) (λt ht y hy=>by rw[gi,dD ht]at hy;cases hy;exact e3) e4 e5 fB
   (λj hj FG oj e u q1 q2 q3 q4 q5=>yg q2 VH q3) hE
  rcases e2 with rfl|⟨rfl,rfl⟩
  ·rw[Oper.uponIn_value];exact go uX
  ·rw[Oper.uponIn_skip];exact go uX
theorem LK{ops:Array Oper}(hl:ops.toList=l): ∀(dv:Array Bool)(i:Nat),dv.size=l.length->i∈Region.ready .any ops dv->i<l.length/\dv.getD i false=false/\ ∀o,l[i]? =some o-> ∀p∈direct o,dv.getD p false=true:=by
 have dA:ops.size=l.length:=by rw[<-hl];simp
 intro dv i eC hi
 unfold Region.ready at hi
 rw[lD,AN]at hi
 obtain⟨h1,h2⟩:=hi
 rw[dA]at h1
 simp only[fi,p9]at h2
 refine⟨h1,?_,λo ho p jN=>?_⟩
 ·have:=h2.1
  have gq:i<dv.size:=by omega
  simp only[xc,Ky gq,Ab]at this |-
  exact this
 ·have h3:=h2.2
  have VJ:ops[i]? =some o:=by rw[<-ho,<-hl];simp
  rw[VJ]at h3
  simp only[gy,Ab,zE9,tz,p9]at h3
  obtain⟨e,he,rfl⟩:=jJ.1 jN
  obtain⟨QJ,QL⟩:=lD.1 he
  rcases h3 e (by simpa using QJ)with h|h
  ·rw[h]at QL;cases QL
  ·exact h
theorem JG{ops:Array Oper}(hl:ops.toList=l)(hp:gM X P N l pre bN): ∀(dv:Array Bool),dv.size=l.length->Region.ready .any ops dv=[]-> ∀i,i<l.length->dv.getD i false=true:=by
 have dA:ops.size=l.length:=by rw[<-hl];simp
 intro dv eC hr i
 induction i using Nat.strongRecOn with
 |_ i ih=>
  intro hi
  apply Classical.byContradiction
  intro hn
  have ku:i∈Region.ready .any ops dv:=by
   unfold Region.ready
   rw[lD,AN]
   refine⟨by omega,?_⟩
   obtain⟨o,ho⟩: ∃o,l[i]? =some o:=⟨_,dH hi⟩
   have VJ:ops[i]? =some o:=by rw[<-ho,<-hl];simp
   have gq:i<dv.size:=by omega
   simp only[fi,p9,VJ,gy,Ab,zE9,tz]
   refine⟨?_,λe he=>?_⟩
   ·simp only[xc,Ky gq,Ab]at hn |-
    simpa using hn
   ·by_cases hb:Region.binds .any e=true
    ·right
     have hd:e.on∈direct o:=jJ.2 ⟨e,lD.2 ⟨by simpa using he,hb⟩,rfl⟩
     have ZN:=(hp.LA i (AN.2 hi) o ho).1 e.on hd
     exact ih e.on ZN (by omega)
    ·left;simpa using hb
  rw[hr]at ku;cases ku
theorem JH{ops:Array Oper}(hl:ops.toList=l)(hp:gM X P N l pre bN)(h0:eL G0 s0 w0){Q:Exit->Env->St->Prop}(hQ: ∀bI s,K bI s->Q .normal bI s)(ro:Option Nat):
  ∀(mA:Nat)(dv:Array Bool)(ds σ:List Step)(tr:List (Nat×Env×AV))(bI:Env)(s:St)(a:Act)(w:World)(G:cg),dv.size=l.length->
    ((List.range l.length).filter λi=>!dv.getD i false).length<=mA->
    pW P N ρ l pre bN K ik G0 s0 w0 (λi=>dv.getD i false=true) ds σ tr bI s a w G->(∀st r,σ=st::r->st.waits=true/\ ¬dv.getD st.idx false=true)->(∀x y,X x y->dv.getD x false=true)->
    wpAnyIn (vd ro) 0 P .any ops (ia G0 N ρ s0 w0 Q) mA dv a w:=by
 have dA:ops.size=l.length:=by rw[<-hl];simp
 have fin: ∀(dv:Array Bool)(ds σ:List Step)(tr:List (Nat×Env×AV))(bI:Env)(s:St)(a:Act)(w:World)(G:cg),dv.size=l.length->
    pW P N ρ l pre bN K ik G0 s0 w0 (λi=>dv.getD i false=true) ds σ tr bI s a w G->(∀st r,σ=st::r->st.waits=true/\ ¬dv.getD st.idx false=true)->
    (∀i,i<l.length->dv.getD i false=true)->ia G0 N ρ s0 w0 Q .normal a w:=by
  intro dv ds σ tr bI s a w G eC h hn iP
  have hσ:σ=[]:=by
    cases σ with
    |nil=>rfl
    |cons st r=>
     exfalso
     exact(hn st r rfl).2 (iP _ (hp.perm.1 st (by rw[h.split];simp)))
  subst hσ
  have eZ: ∀i,i<l.length->i∈jD ds:=λi hi=>by
    rcases h.sub i (iP i hi)with hd|⟨hd,_⟩
    ·exact hd
    ·cases hd
  refine⟨G,bI,s,⟨h.iQ,λt x hx=>?_,h.size,h.mg,h.known⟩,h.ext,hQ _ _ h.run⟩
  by_cases hw: ∃i,iH l i=some t
  · obtain⟨i,hi⟩:=hw
    have sO:=F7 hi
    refine⟨?_,h.s2 i (iP i sO) (eZ i sO) t hi x hx⟩
    obtain⟨o,ho⟩: ∃o,l[i]? =some o:=⟨_,dH sO⟩
    have h2:=(pT.1 hp.JD) o (gz ho)
    rw[gv ho]at hi
    rw[hi]at h2
    rw[h.size];simpa[mE]using h2
  · rw[h.e0 t λi _ hi=>hw ⟨i,hi⟩]at hx
    obtain⟨q1,q2⟩:=h.s1 t x hx λi _ hi=>hw ⟨i,hi⟩
    exact⟨by rw[h.size];exact q1,q2⟩
 have rdy:=LK hl
 have F8:=JG hl hp
 intro mA
 induction mA with
 |zero=>
  intro dv ds σ tr bI s a w G eC hf h hn hX
  have iP: ∀i,i<l.length->dv.getD i false=true:=λi hi=>by
    apply Classical.byContradiction
    intro hq
    have:0<((List.range l.length).filter λi=>!dv.getD i false).length:=XB (lD.2 ⟨AN.2 hi,by simpa using hq⟩)
    omega
  refine⟨?_,fin dv ds σ tr bI s a w G eC h hn iP⟩
  cases hr:Region.ready .any ops dv with
  |nil=>rfl
  |cons i r=>
    obtain⟨q1,q2,_⟩:=rdy dv i eC (by rw[hr];simp)
    rw[iP i q1]at q2;cases q2
 |succ mA ih=>
  intro dv ds σ tr bI s a w G eC hf h hn hX
  refine⟨λhr=>fin dv ds σ tr bI s a w G eC h hn (F8 dv eC hr),λi hi=>?_⟩
  obtain⟨sO,KD,VK⟩:=rdy dv i eC hi
  obtain⟨o,ho⟩: ∃o,l[i]? =some o:=⟨_,dH sO⟩
  have VJ:ops[i]? =some o:=by rw[<-ho,<-hl];simp
  have qU: ¬dv.getD i false=true:=by rw[KD];simp
  have kw: ∀p∈iG pre i,dv.getD p false=true:=λp jN=>by
    obtain⟨_,h2⟩:=hp.LA i (AN.2 sO) o ho
    rcases(h2 p jN).2 with hd|⟨d,hd,O1⟩
    ·exact VK o ho p hd
    ·exact h.closed d (VK o ho d hd) p O1
  have Ag:(dv.setIfInBounds i true).size=l.length:=by simpa using eC
  have gq:i<dv.size:=by omega
  have hE: ∀j,(dv.setIfInBounds i true).getD j false=true↔dv.getD j false=true\/j=i:=λj=>by
    simp only[xc,Array.getElem?_setIfInBounds]
    by_cases hj:i=j
    ·subst hj;simp[gq]
    ·rw[dM hj]
     constructor
     ·exact .inl
     ·rintro(h|h)
      · exact h
      · exact absurd h.symm hj
  have uU:((List.range l.length).filter λj=>!(dv.setIfInBounds i true).getD j false).length<=mA:=by
    have:=HN (p:=λj=>!dv.getD j false) (q:=λj=>!(dv.setIfInBounds i true).getD j false) (l:=List.range l.length) (λj _ hq=>by
     simp only[p9]at hq |-
     cases hb:dv.getD j false with
     |false=>rfl
     |true=>rw[(hE j).2 (.inl hb)]at hq;cases hq) (AN.2 sO) (by simp[KD]) (by simp[(hE i).2 (.inr rfl)])
    omega
  have go: ∀{ds' σ':List Step}{Ak:List (Nat×Env×AV)}{env':Env}{s':St}{a':Act}{w':World}{G':cg},
     pW P N ρ l pre bN K ik G0 s0 w0 (λj=>(dv.setIfInBounds i true).getD j false=true) ds' σ' Ak env' s' a' w' G'->wpAnyIn (vd ro) 0 P .any ops (ia G0 N ρ s0 w0 Q) mA (dv.setIfInBounds i true) a' w':=by
    intro ds' σ' Ak env' s' a' w' G' h'
    obtain⟨ds2,σ2,tr2,ve,s2,G2,h2,R2⟩:=XP hp h0 σ' h'
    exact ih _ ds2 σ2 tr2 ve s2 a' w' G2 Ag uU h2 R2 λx y Ca=>(hE x).2 (.inl (hX x y Ca))
  simp only[wpOpIn,VJ]
  have lG:=gv ho
  by_cases eZ:i∈jD ds
  ·
    have O1: ∀p∈iG pre i,p∈jD ds:=kA hp h.split eZ
    obtain⟨o',q1,vp,q3⟩:=h.JE i eZ qU
    rw[ho]at q1;cases q1
    rcases q3 with⟨hg,e,v,p1,p2,p3,_⟩|⟨hg,p1⟩
    ·rw[dD (qV hl hp h hg kw O1 qU)]
     have hve:jm G e a.tmps:=λt x hx=>by
      obtain⟨r1,r2⟩:=B9 hp h (p1 t x hx) kw O1 qU
      exact⟨by rw[h.size];exact r1,r2⟩
     obtain⟨nx,u,G',w',e1,e2,e3,e4,e5⟩:=vl h.iQ hve o p2
     refine⟨λ_ _=>trivial,?_⟩
     rw[Oper.semAt_eq _ _ _ (λc=>by intro e;rw[e]at vp;simp[fV]at vp),e1]
     have uX:=yj hp h0 h ho eZ qU kw (v:=u) (λt ht x hx=>by rw[p3 t ht]at hx;cases hx;exact e3) e4 e5 hE
     rcases e2 with rfl|⟨rfl,rfl⟩
     ·rw[Oper.uponIn_value];exact go uX
     ·rw[Oper.uponIn_skip];exact go uX
    ·rw[dM (by rw[qV hl hp h hg kw O1 qU];simp)]
     exact⟨λ_ _=>trivial,go (yj hp h0 h ho eZ qU kw (λt ht x hx=>by rw[p1 t ht]at hx;cases hx;exact .ec [] #[] rfl (by simp)) h.iQ (.refl _ _ _) hE)⟩
  ·
    have tT:i∈bN.map Step.idx:=hp.perm.2.1 i (AN.2 sO)
    rw[h.split,Dm,lr]at tT
    rcases tT with tT|tT
    ·exact absurd tT eZ
    ·cases σ with
     |nil=>cases tT
     |cons st r=>
      obtain⟨hw,VM⟩:=hn st r rfl
      by_cases his:i=st.idx
      · subst his
        exact JF hl hp h0 ro h hw ho qU kw eZ hE go
      ·
        have hir:i∈r.map Step.idx:=by
         rcases mU.1 tT with h|h
         ·exact absurd h his
         ·exact h
        obtain⟨st2,F9,rfl⟩:=jJ.1 hir
        have hk:bN[ds.length]? =some st:=by rw[h.split];simp
        have hws:=hp.waits ds.length (by rw[AN,h.split];simp) st hk hw st2 (by rw[h.split];simpa using F9)
        rcases hws with ha|hpr|xg
        ·cases st2 with
         |iD _ _=>cases ha
         |ir _ _=>cases ha
         |alloc i=>
          simp only[Step.idx]at *
          have ku:Step.alloc i∈bN:=by rw[h.split];simp[F9]
          obtain⟨k1,k2,k3⟩:=hp.kinds _ ku o ho
          rw[dD (by simp[Region.wanted,k2])]
          obtain⟨t,ht⟩:=AM.1 k3
          cases yb:o.op with
          |alloc ty=>
           rw[yb]at k1
           simp only at k1
           obtain⟨z,hz⟩:=AM.1 k1
           obtain⟨zv,Oq,Lm⟩:=ke (BV hz) w G
           have AR:=VL.cells Lm (Cc (BV hz))
           obtain⟨g1,g2⟩:=h.iQ.grow (.cells zv.cells ty)
           refine⟨λ_ _=>trivial,?_⟩
           have VN:(execOp a.eval o).run P w=.ok (.value (.pointer (some ⟨w.heap.size,0,none⟩))) (w.alloc (.cells zv.cells ty)):=by
            simp[execOp,yb,Instr.alloc,Oq,newVar,newRow]
           rw[Oper.semAt_eq _ _ _ (λc=>by rw[yb];simp),VN,Oper.uponIn_value]
           have Oo:t<a.tmps.size:=by
            have h2:=(pT.1 hp.JD) o (gz ho)
            rw[ht]at h2
            rw[h.size];simpa[mE]using h2
           refine go (ds':=ds) (σ':=st::r) (Ak:=tr) (env':=bI) (s':=s) (G':=G) ⟨h.split,h.run,g1,h.ext.trans h0 g2,by rw[yi];exact h.size,by rw[qn];exact h.mg,h.known,λj hj=>?_,λj hj p jN=>?_,λj hj=>?_,λst3 iz hw=>(hE _).2 (.inl (h.wait st3 iz hw)),λt' x xg Vq=>?_,λj hj tv t' w9 x xg=>?_,h.e0,λj hj FG=>?_,λi1 j1 h1 h2 h3 h4 oT t1 t2 d1 d2=>?_⟩
           ·rcases(hE j).1 hj with hj|rfl
            ·exact h.lt j hj
            ·exact sO
           ·rcases(hE j).1 hj with hj|rfl
            ·exact(hE p).2 (.inl (h.closed j hj p jN))
            ·exact(hE p).2 (.inl (kw p jN))
           ·rcases(hE j).1 hj with hj|rfl
            ·rcases h.sub j hj with hd|⟨hd,he⟩
             ·exact .inl hd
             ·refine .inr ⟨hd,he.later h.iQ g2 λt' w9=>(jb λe=>?_).2⟩
              have:=gE hp (by rw[lG];exact e) w9
              subst this;exact qU hj
            ·refine .inr ⟨by simp[F9],o,t,ty,z,w.heap.size,zv.cells,ty,ho,yb,ht,hz,?_,?_,AR,?_,λj=>?_,h.ext.size⟩
             ·rw[ht];exact(ly Oo).2
             ·show(w.heap.push _)[w.heap.size]? =_;simp
             ·rintro⟨id,blk,r',q1,q2,q3⟩
              have:=h.iQ.jn q1 q2
              omega
             ·cases hj:G.gP w.heap.size j with
              |none=>rfl
              |some u=>have:=h.iQ.sI hj;omega
           ·have h1:o.dst≠some t':=λe=>Vq i ((hE i).2 (.inr rfl)) (by rw[lG];exact e)
            rw[(jb h1).1]
            exact h.s1 t' x xg λj hj=>Vq j ((hE j).2 (.inl hj))
           ·rcases(hE j).1 hj with hj|rfl
            ·have h1:o.dst≠some t':=λe=>by
              have:=gE hp (by rw[lG];exact e) w9
              subst this;exact qU hj
             rw[(jb h1).1]
             exact h.s2 j hj tv t' w9 x xg
            ·exact absurd tv eZ
           ·exact h.JE j hj λe=>FG ((hE j).2 (.inl e))
           ·have Ba:iH l i=some t:=by rw[lG];exact ht
            have wT:(a.put o.dst (.pointer (some ⟨w.heap.size,0,none⟩))).tmps[t]? =some (.pointer (some ⟨w.heap.size,0,none⟩)):=by rw[ht];exact(ly Oo).2
            have pI: ∀{k tk},dv.getD k false=true->Step.alloc k∈st::r->iH l k=some tk->(a.put o.dst (.pointer (some ⟨w.heap.size,0,none⟩))).tmps[tk]? =a.tmps[tk]?/\a.tmps[tk]?≠some (.pointer (some ⟨w.heap.size,0,none⟩)):=λ{k tk}hk LH LI=>by
             refine⟨(jb λe=>?_).2,?_⟩
             ·have:=gE hp (by rw[lG];exact e) LI
              subst this;exact qU hk
             ·rcases h.sub k hk with hd|⟨_,he⟩
              ·exact absurd hd (ki hp h.split LH)
              ·obtain⟨ok,tk',tyk,zk,bk,csk,ek,k1,k2,k3,k4,k5,k6,_⟩:=he
               have:tk'=tk:=by rw[gv k1,k3]at LI;exact Option.some.inj LI
               subst this
               rw[k5]
               intro e
               cases e
               rw[YW (eF _)]at k6
               cases k6
            rcases(hE i1).1 h1 with g1|g1<;>rcases(hE j1).1 h2 with g2|g2
            ·rw[(pI g1 h3 d1).1,(pI g2 h4 d2).1]
             exact h.DP i1 j1 g1 g2 h3 h4 oT t1 t2 d1 d2
            ·subst g2
             rw[Ba]at d2;cases d2
             rw[(pI g1 h3 d1).1,wT]
             exact(pI g1 h3 d1).2
            ·subst g1
             rw[Ba]at d1;cases d1
             rw[(pI g2 h4 d2).1,wT]
             exactλe=>(pI g2 h4 d2).2 e.symm
            ·exact absurd (g1.trans g2.symm) oT
          |_=>rw[yb]at k1;exact k1.elim
        ·exact absurd (kw _ hpr) VM
        ·exact absurd (hX _ _ xg) VM
theorem LL{id:Nat}{ops:Array Oper}{Q:Exit->Env->St->Prop}{bI:Env}{s:St}(pre:List (List Nat))(bN:List Step)(l:List Oper)(hl:ops.toList=l)(hm:P.follows .mixedOrders=true)(hp:LD P N l pre bN)
  (h:zX P l (λbI s=>Q .normal bI s) bN [] bI s):lT P N ρ (.region id ops true) Q bI s:=λG w a hn=>by
 refine wpIn_region_any hm ?_
 have eC:ops.size=l.length:=by rw[<-hl];simp
 have hd:pW P N ρ l pre bN (λbI s=>Q .normal bI s) bI G s w (λi=>(Array.replicate ops.size false).getD i false=true) [] bN [] bI s a {w with drawn:=w.drawn+1} G:=by
  have rQ: ∀i,¬(Array.replicate ops.size false).getD i false=true:=λi=>by
   simp only[xc,Array.getElem?_replicate]
   split<;>simp
  exact⟨rfl,h,hn.iQ.drew,Ext.drew G s w,hn.size,hn.mg,hn.known,λi hi=>absurd hi (rQ i),λi hi=>absurd hi (rQ i),λi hi=>absurd hi (rQ i),(λst iz=>by cases iz),
   (λt x hx _=>by have:=hn.bI t x hx;rw[hn.size]at this;exact this),λi hi=>absurd hi (rQ i),λt _=>rfl,(λi hi=>by cases hi),λi _ hi=>absurd hi (rQ i)⟩
 obtain⟨ds',σ',Ak,env',s',G',h',mu⟩:=XP hp hn.iQ bN hd
 exact JH hl hp hn.iQ (λ_ _ h=>h) _ ops.size _ ds' σ' Ak env' s' a _ G' (by simp[eC]) (by rw[eC];exact vU (sq _ _) (by simp)) h' mu λ_ _ h=>h.elim
end
end Go.Am
end
section
namespace Go.Am
open Go.RowKit
theorem eL.VO{G G':cg}{s s':St}{w w':World}{id:Nat}{blk:gD}(h:eL G ⟨(id,blk)::s.heap,s.bT⟩ w)(jT:id<s.bT)(rQ:bH s.heap id=none)
  (h':eL G' s' w') (x:Ext G s w G' s' w'):eL G' ⟨(id,blk)::s'.heap,s'.bT⟩ w'/\Ext G ⟨(id,blk)::s.heap,s.bT⟩ w G' ⟨(id,blk)::s'.heap,s'.bT⟩ w':=by
 have aaL:bH s'.heap id=none:=by
  cases hq:bH s'.heap id with
  |none=>rfl
  |some b=>
   rcases x.ids id b hq with⟨b0,e⟩|e
   ·rw[rQ]at e;cases e
   ·omega
 have Bb:bH ((id,blk)::s.heap) id=some blk:=by simp[cV,cM]
 rcases h.heap id blk Bb with⟨r,o,e1,e2,e3⟩|⟨en,em⟩
 case inr=>
  have jy: ∀{l:List (Nat×gD)}i b,bH ((id,blk)::l) i=some b->(i=id/\b=blk)\/(i≠id/\bH l i=some b):=λi b hg=>by
   simp only[cV,cM]at hg
   split at hg
   ·cases hg;exact .inl ⟨by omega,rfl⟩
   ·exact .inr ⟨by omega,hg⟩
  have up: ∀i b,bH s.heap i=some b->bH ((id,blk)::s.heap) i=some b:=λi b hg=>by
   have:id≠i:=λe=>by subst e;rw[rQ]at hg;cases hg
   simp[cV,cM,this,hg]
  have XR:=x.stay id jT en
  have yk: ∀b,lZ G s b->lZ G ⟨(id,blk)::s.heap,s.bT⟩ b:=λb ⟨i,b',r',g1,g2,g3⟩=>⟨i,b',r',up i b' g1,g2,g3⟩
  refine⟨⟨h'.gP,?_,?_,?_,h'.ct,?_⟩,⟨x.le,x.os,x.tape,x.output,x.size,?_,?_,?_,?_,x.bT,?_,x.stay,x.drawn⟩⟩
  ·intro i b hg
   rcases jy i b hg with⟨rfl,rfl⟩|⟨_,hg⟩
   ·exact .inr ⟨XR,em⟩
   ·exact h'.heap i b hg
  ·intro i i' b b' r1 r2 h1 h2 o1 o2 eV
   rcases jy i b h1 with⟨rfl,rfl⟩|⟨n1,g1⟩<;>rcases jy i' b' h2 with⟨rfl,rfl⟩|⟨n2,g2⟩
   ·exact absurd rfl eV
   ·rw[XR]at o1;cases o1
   ·rw[XR]at o2;cases o2
   ·exact h'.apart i i' b b' r1 r2 g1 g2 o1 o2 eV
  ·intro i b r1 j hg ho
   rcases jy i b hg with⟨rfl,rfl⟩|⟨_,hg⟩
   ·rw[XR]at ho;cases ho
   ·exact h'.clear i b r1 j hg ho
  ·intro i b hg
   show i<s'.bT
   rcases jy i b hg with⟨rfl,rfl⟩|⟨_,hg⟩
   ·exact RH jT x.bT
   ·exact h'.lt i b hg
  ·intro b hb hn
   exact x.keep b hb λe=>hn (yk b e)
  ·intro b o v hi
   rcases x.jA b o v hi with g|g|g
   ·exact .inl g
   ·exact .inr (.inl g)
   ·exact .inr (.inr (yk b g))
  ·intro i r' hi
   rcases x.iW i r' hi with g|g|g
   ·exact .inl g
   ·exact .inr (.inl g)
   ·exact .inr (.inr (yk _ g))
  ·intro i b hg
   rcases jy i b hg with⟨rfl,rfl⟩|⟨_,hg⟩
   ·exact .inl ⟨b,Bb⟩
   ·rcases x.ids i b hg with⟨b0,g⟩|g
    ·exact .inl ⟨b0,up i b0 g⟩
    ·exact .inr g
  ·intro i hi
   rcases jy i .gr hi with⟨rfl,hb⟩|⟨n,g⟩
   ·simp[cV,cM,<-hb]
   ·have:=x.gr i g
    simp only[cV,cM]
    rw[dM (λe=>n e.symm)]
    exact this
 have gq:r.block<w.heap.size:=h.jn Bb e1
 have jy: ∀{l:List (Nat×gD)}i b,bH ((id,blk)::l) i=some b->(i=id/\b=blk)\/(i≠id/\bH l i=some b):=λi b hg=>by
  simp only[cV,cM]at hg
  split at hg
  ·cases hg;exact .inl ⟨by omega,rfl⟩
  ·exact .inr ⟨by omega,hg⟩
 have up: ∀i b,bH s.heap i=some b->bH ((id,blk)::s.heap) i=some b:=λi b hg=>by
  have:id≠i:=λe=>by subst e;rw[rQ]at hg;cases hg
  simp[cV,cM,this,hg]
 have Cd: ¬lZ G s r.block:=by
  rintro⟨i,b,r',g1,g2,g3⟩
  have eV:i≠id:=λe=>by subst e;rw[rQ]at g1;cases g1
  exact h.apart i id b blk r' r (up i b g1) Bb g2 e1 eV g3
 have yk: ∀b,lZ G s b->lZ G ⟨(id,blk)::s.heap,s.bT⟩ b:=λb ⟨i,b',r',g1,g2,g3⟩=>⟨i,b',r',up i b' g1,g2,g3⟩
 have Ut: ∀i b r',bH s'.heap i=some b->G'.own i=some r'->r'.block≠r.block:=λi b r' g1 g2 e=>by
  rcases x.iW i r' g2 with g|g|g
  ·rcases x.ids i b g1 with⟨b0,g0⟩|g0
   ·exact Cd ⟨i,b0,r',g0,g,e⟩
   ·have:=h.ct i g0
    rw[this]at g;cases g
  ·omega
  ·rw[e]at g;exact Cd g
 refine⟨⟨h'.gP,?_,?_,?_,h'.ct,?_⟩,⟨x.le,x.os,x.tape,x.output,x.size,?_,?_,?_,?_,x.bT,?_,x.stay,x.drawn⟩⟩
 ·intro i b hg
  rcases jy i b hg with⟨rfl,rfl⟩|⟨_,hg⟩
  ·exact .inl ⟨r,o,x.le.own _ _ e1,by rw[x.keep _ gq Cd];exact e2,e3.mono x.le⟩
  ·exact h'.heap i b hg
 ·intro i i' b b' r1 r2 h1 h2 o1 o2 eV
  rcases jy i b h1 with⟨rfl,rfl⟩|⟨n1,g1⟩<;>rcases jy i' b' h2 with⟨rfl,rfl⟩|⟨n2,g2⟩
  ·exact absurd rfl eV
  ·rw[x.le.own _ _ e1]at o1;cases o1
   exactλe=>Ut i' b' r2 g2 o2 e.symm
  ·rw[x.le.own _ _ e1]at o2;cases o2
   exact Ut i b r1 g1 o1
  ·exact h'.apart i i' b b' r1 r2 g1 g2 o1 o2 eV
 ·intro i b r1 j hg ho
  rcases jy i b hg with⟨rfl,rfl⟩|⟨_,hg⟩
  ·rw[x.le.own _ _ e1]at ho;cases ho
   cases hq:G'.gP r.block j with
   |none=>rfl
   |some v=>
    rcases x.jA _ _ _ hq with g|g|g
    ·rw[h.clear i b r j Bb e1]at g;cases g
    ·omega
    ·exact absurd g Cd
  ·exact h'.clear i b r1 j hg ho
 ·intro i b hg
  show i<s'.bT
  rcases jy i b hg with⟨rfl,rfl⟩|⟨_,hg⟩
  ·exact RH jT x.bT
  ·exact h'.lt i b hg
 ·intro b hb hn
  exact x.keep b hb λe=>hn (yk b e)
 ·intro b o v hi
  rcases x.jA b o v hi with g|g|g
  ·exact .inl g
  ·exact .inr (.inl g)
  ·exact .inr (.inr (yk b g))
 ·intro i r' hi
  rcases x.iW i r' hi with g|g|g
  ·exact .inl g
  ·exact .inr (.inl g)
  ·exact .inr (.inr (yk _ g))
 ·intro i b hg
  rcases jy i b hg with⟨rfl,rfl⟩|⟨_,hg⟩
  ·exact .inl ⟨b,Bb⟩
  ·rcases x.ids i b hg with⟨b0,g⟩|g
   ·exact .inl ⟨b0,up i b0 g⟩
   ·exact .inr g
 ·intro i hi
  rcases jy i .gr hi with⟨rfl,hb⟩|⟨n,g⟩
  ·simp[cV,cM,<-hb]
  ·have:=x.gr i g
   simp only[cV,cM]
   rw[dM (λe=>n e.symm)]
   exact this
def iI:List Tmp->List AV->Env->Env
 |t::ts,x::xs,bI=>iI ts xs (eg bI t x)
 |_,_,bI=>bI
def ic(s:St)(id:Nat)(l:vW):St:=⟨eg s.heap id (.loop l),s.bT⟩
section
variable {P:Program} {N:Nat} {ρ:Option Nat} {Q:Exit->Env->St->Prop} {bI:Env} {s:St}
theorem jm.set{G:cg}{tmps:Array Value}(h:jm G bI tmps){t:Nat}{x:AV}{v:Value}(ht:t<tmps.size)(hv:V G x v):jm G (eg bI t x) (tmps.setIfInBounds t v):=λu y hy=>by
 rw[eO]at hy
 split at hy
 ·rename_i he;subst he;cases hy
  exact⟨by simpa using ht,by simp[xc,ht];exact hv⟩
 ·rename_i he
  obtain⟨e1,e2⟩:=h u y hy
  refine⟨by simpa using e1,?_⟩
  rw[xc,U2 he,<-xc]
  exact e2
theorem jm.params{G:cg}: ∀(ts:List Tmp)(xs:List AV)(vs:List Value)(bI:Env)(tmps:Array Value),jm G bI tmps->(∀t∈ts,t<tmps.size)->xs.length=vs.length->
  (∀(i:Nat)x y,xs[i]? =some x->vs[i]? =some y->V G x y)->jm G (iI ts xs bI) ((ts.zip vs).foldl (λtmps(t,a)=>tmps.setIfInBounds t a) tmps)
 | [],xs,vs,bI,tmps,h,_,_,_=>by simpa[iI]using h
 |t::ts,[],[],bI,tmps,h,_,_,_=>by simpa[iI]using h
 |t::ts,x::xs,v::vs,bI,tmps,h,ht,hl,hv=>by
  simp only[iI,List.zip_cons_cons,RP]
  refine jm.params ts xs vs _ _ (h.set (ht t (by simp)) (hv 0 x v rfl rfl)) (λu hu=>by simpa using ht u (by simp[hu])) (by simpa using hl) (λi a b ha hb=>hv (i+1) a b (by simpa using ha) (by simpa using hb))
 |t::ts,x::xs,[],bI,tmps,h,_,hl,_=>by simp at hl
 |t::ts,[],v::vs,bI,tmps,h,_,hl,_=>by simp at hl
theorem wi: ∀(ts:List Tmp)(vs:List Value)(tmps:Array Value),((ts.zip vs).foldl (λtmps(t,a)=>tmps.setIfInBounds t a) tmps).size=tmps.size
 | [],vs,tmps=>by simp
 |t::ts,[],tmps=>by simp
 |t::ts,v::vs,tmps=>by simp only[List.zip_cons_cons,RP];rw[wi ts vs];simp
def qo(id:Nat)(Q:AV->St->Prop):Exit->Env->St->Prop
 |.normal,_,s=> ∃l,bH s.heap id=some (.loop l)/\Q (.bool true) (ic s id {l with state:=.ready,pending:=none})
 |.ret,_,s=> ∃l,bH s.heap id=some (.loop l)/\Q (.bool false) (ic s id {l with state:=.done,pending:=some .ret})
 |.exit i,_,s=> ∃l,bH s.heap id=some (.loop l)/\Q (.bool false) (ic s id {l with state:=.done,pending:=some (.exit i)})
 |_,_,_=>False
theorem qW{G:cg}{w:World}(h:eL G s w){id:Nat}{l:vW}{r:uW}(hg:bH s.heap id=some (.loop l))(ho:G.own id=some r):
  ∃fn tmps d,w.heap[r.block]? =some (.loop {state:=l.state,pending:=l.pending,fn:=fn,tmps:=tmps,params:=l.params.toArray,assign:=l.assign,body:=l.body,defers:=d})/\tmps.size=l.ntmps/\jm G l.bI tmps:=by
 obtain⟨o,e2,e3⟩:=h.at hg ho
 cases e3 with
 |loop _ fn tmps d eC hV=>exact⟨fn,tmps,d,e2,eC,hV⟩
theorem qX{G:cg}{w:World}(h:eL G s w){id:Nat}{l l':vW}{r:uW}{fn:FuncId}{tmps:Array Value}{d:Nat}(hg:bH s.heap id=some (.loop l))(ho:G.own id=some r)
  (hw:w.heap[r.block]? =some (.loop {state:=l.state,pending:=l.pending,fn:=fn,tmps:=tmps,params:=l.params.toArray,assign:=l.assign,body:=l.body,defers:=d}))
  (eC:tmps.size=l.ntmps) (hV:jm G l.bI tmps) (hl:l'={l with state:=l'.state,pending:=l'.pending}):
  eL G (ic s id l') (w.putObj r.block (.loop {state:=l'.state,pending:=l'.pending,fn:=fn,tmps:=tmps,params:=l.params.toArray,assign:=l.assign,body:=l.body,defers:=d}))/\
  Ext G s w G (ic s id l') (w.putObj r.block (.loop {state:=l'.state,pending:=l'.pending,fn:=fn,tmps:=tmps,params:=l.params.toArray,assign:=l.assign,body:=l.body,defers:=d})):=by
 refine h.turn (o:=.loop {state:=l'.state,pending:=l'.pending,fn:=fn,tmps:=tmps,params:=l.params.toArray,assign:=l.assign,body:=l.body,defers:=d}) hg ho (by simp) rfl rfl rfl
  (λb hb=>World.putObj_heap_other hb) (World.putObj_heap_same (Qr.1 hw).1) ?_ (by simp)
 rw[hl]
 exact .loop _ fn tmps d eC hV
theorem R6{id:Nat}{args:List AV}{K:AV->St->Prop}{l:vW}(hg:bH s.heap id=some (.loop l))(dA:args.length=l.params.length)(Jc:(l.params.all λt=>decide (t<l.ntmps))=true)
  (h:lT P l.ntmps (some id) l.assign (RV (λR7 s1=> ∃l1,bH s1.heap id=some (.loop l1)/\l1.state=.ready/\
   lT P l.ntmps (some id) l.body (qo id K) R7 (ic s1 id {l1 with state:=.busy})) (λ_ _ _=>False)) (iI l.params args l.bI) s):iY P id args s K:=by
 intro o G w r vs hs ho hv
 obtain⟨fn,tmps,d,hw,eC,hV⟩:=qW hs hg ho
 refine⟨fn,_,l.assign,l.body,run_yield hw (by have:=hv.1;simp;omega),roundIn_of_wpIn trivial ?_⟩
 have R8:vZ G (some id):=λi e=>by cases e;exact⟨r,ho⟩
 have VP:wL G (some id)=some r.block:=by simp[wL,ho]
 have VQ:((l.params.toArray.zip vs).foldl (λtmps(t,a)=>tmps.setIfInBounds t a) tmps)=((l.params.zip vs.toList).foldl (λtmps(t,a)=>tmps.setIfInBounds t a) tmps):=by
  rw[<-Array.foldl_toList,Array.toList_zip]
 have VR: ∀t∈l.params,t<l.ntmps:=λt ht=>by simpa using pT.1 Jc t ht
 have JC:xe G l.ntmps (some id) (iI l.params args l.bI) s {tmps:=(l.params.toArray.zip vs).foldl (λtmps(t,a)=>tmps.setIfInBounds t a) tmps,defers:=[]} w:=by
  rw[VQ]
  exact⟨hs,hV.params l.params args vs.toList l.bI tmps (λt ht=>by rw[eC];exact VR t ht) (by simpa using hv.1) (λi x y hx hy=>hv.2 i x y hx (by simpa using hy)),by rw[wi,eC],trivial,R8⟩
 have h1:=h G w _ JC
 rw[VP]at h1
 refine wpIn_mono h1 ?_
 rintro e a1 w1 ⟨G1,R7,s1,n1,x1,q1⟩
 cases e with
 |normal=>
  obtain⟨l1,g1,hr1,hb⟩:=q1
  have XS:=x1.le.own _ _ ho
  obtain⟨fn1,aaI,d1,DT,ZO,hV1⟩:=qW n1.iQ g1 XS
  obtain⟨t1,t2⟩:=qX n1.iQ (l':={l1 with state:=.busy}) g1 XS DT ZO hV1 rfl
  refine⟨_,run_beginRound DT hr1,?_⟩
  have n2:xe G1 l.ntmps (some id) R7 (ic s1 id {l1 with state:=.busy}) a1 _:=⟨t1,n1.bI,n1.size,n1.mg.ext t2,n1.known⟩
  have h2:=hb G1 _ a1 n2
  have R9:wL G1 (some id)=some r.block:=by simp[wL,XS]
  rw[R9]at h2
  refine wpIn_mono h2 ?_
  rintro e a3 w3 ⟨G3,O4,s3,n3,x3,q3⟩
  have ho3:=x3.le.own _ _ XS
  have x03:=(x1.trans hs t2).trans hs x3
  have fin: ∀(jump:Option Code)(l3:vW)(g3:bH s3.heap id=some (.loop l3)),K (.bool jump.isNone) (ic s3 id {l3 with state:=if jump.isNone then .ready else .done,pending:=jump})->
    ∃v w',(Instr.endRound r.block jump).run P w3=.ok v w'/\wM G s w K (.returned v) w':=by
   intro jump l3 g3 hk
   obtain⟨XT,HO,d3,QM,LM,ZP⟩:=qW n3.iQ g3 ho3
   obtain⟨u1,u2⟩:=qX n3.iQ (l':={l3 with state:=if jump.isNone then .ready else .done,pending:=jump}) g3 ho3 QM LM ZP rfl
   exact⟨_,_,run_endRound jump QM,.bool jump.isNone,G3,_,_,rfl,.bool _,u1,x03.trans hs u2,hk⟩
  cases e with
  |normal=>obtain⟨l3,g3,hk⟩:=q3;exact fin none l3 g3 hk
  |ret=>obtain⟨l3,g3,hk⟩:=q3;exact fin (some .ret) l3 g3 hk
  |exit i=>obtain⟨l3,g3,hk⟩:=q3;exact fin (some (.exit i)) l3 g3 hk
  |goto t=>exact q3.elim
  |panic ch=>exact q3.elim
  |outgrown=>exact q3.elim
 |exit id=>exact q1.elim
 |goto t=>exact q1.elim
 |ret=>exact q1.elim
 |panic ch=>exact q1.elim
 |outgrown=>exact q1.elim
theorem HP{G:cg}{w:World}(h:eL G s w): ∀{ds:List Deferred},oM G s ds-> ∀d∈ds,∀b,d.target=.collected b->b<w.heap.size
 | [],_,d,hd,_,_=>by cases hd
 |e::ds,⟨⟨id,r,a,b,c,_⟩,hr⟩,d,hd,x,hx=>by
  rcases mU.1 hd with rfl|hd
  ·rw[c]at hx;cases hx;exact h.jn a b
  ·exact HP h hr d hd x hx
def Ce(P:Program)(N:Nat)(ρ:Option Nat)(Q:Exit->Env->St->Prop)(bI:Env)(id:Nat)(marks:List (Nat×gD))(s:St):Prop:=
 ∃l,bH s.heap id=some (.loop l)/\l.state≠ .busy/\(match l.pending with
  |none=>Q .normal bI ⟨marks++eB s.heap id,s.bT⟩
  |some c=>lT P N ρ c Q bI ⟨marks++eB s.heap id,s.bT⟩)
theorem LN{g:Nat}(he:enters P g=true): ∀(args:Array Value)(w:World),(callFunc g args).run P w=.ok (.enter g args) w:=λargs w=>by
 unfold enters at he
 split at he
 case h_2=>cases he
 rename_i fn OK
 simp only[fi,bne_iff_ne,pU]at he
 have Lw: ¬fn.body=none:=by cases hb:fn.body<;>simp[hb]at he |-
 simp[callFunc,OK,he.1,Lw]
theorem Al{g:Operand}{ps:Array Tmp}{assign body:Code}{gf:FuncId}{fQ:List AV}(hg:oper bI g=some (.fn gf fQ))(he:enters P gf=true)
  (h:dQ P gf (.kK (s.bT+1)::fQ) ⟨(s.bT+1,.loop ⟨bI,N,ps.toList,assign,body,.ready,none⟩)::s.heap,s.bT+2⟩
   (λ_ s'=>Ce P N none Q bI (s.bT+1) [(s.bT,.gr)] s')):lT P N none (.rangeFunc g ps assign body) Q bI s:=λG w a hn=>by
 refine wpIn_rangeFunc λfn _=>?_
 have HH:=eM hn.bI hg
 generalize hq:a.eval g=fv at HH
 cases HH with
 |fn _ _ vs Of Je=>
  have hs:=hn.iQ
  have VS:bH s.heap s.bT=none:=by
   cases hc:bH s.heap s.bT with
   |none=>rfl
   |some b=>exact absurd (hs.lt _ _ hc) (by omega)
  obtain⟨p1,p2⟩:=hs.put (o:=.deferred (some [])) (blk:=.gr) (r:=⟨w.heap.size,0,0,0⟩) rfl .gr
  have QC:jm (cg.put G s.bT ⟨w.heap.size,0,0,0⟩) bI a.tmps:=hn.bI.mono p2.le
  obtain⟨p3,p4⟩:=p1.put (o:=.loop {state:=.ready,pending:=none,fn:=fn,tmps:=a.tmps,params:=ps,assign:=assign,body:=body,defers:=w.heap.size})
   (blk:=.loop ⟨bI,N,ps.toList,assign,body,.ready,none⟩) (r:=⟨w.heap.size+1,0,0,0⟩) (by simp)
   (by
    have:=Holds.loop (G:=cg.put (cg.put G s.bT ⟨w.heap.size,0,0,0⟩) (s.bT+1) ⟨w.heap.size+1,0,0,0⟩) (r:=⟨w.heap.size+1,0,0,0⟩) ⟨bI,N,ps.toList,assign,body,.ready,none⟩ fn a.tmps w.heap.size hn.size (QC.mono (.put (p1.ct _ (eF _))))
    simpa using this)
  generalize XU:cg.put (cg.put G s.bT ⟨w.heap.size,0,0,0⟩) (s.bT+1) ⟨w.heap.size+1,0,0,0⟩=G2 at p3 p4
  have LO:G2.own (s.bT+1)=some ⟨w.heap.size+1,0,0,0⟩:=by rw[<-XU];simp[cg.put]
  have ZQ:G2.own s.bT=some ⟨w.heap.size,0,0,0⟩:=by rw[<-XU];simp[cg.put]
  generalize zY:(w.alloc (.deferred (some []))).alloc (.loop {state:=.ready,pending:=none,fn:=fn,tmps:=a.tmps,params:=ps,assign:=assign,body:=body,defers:=w.heap.size})=w2 at p3 p4
  have x02:=p2.trans hs p4
  have XV: ∀i,bH ((s.bT,gD.gr)::(s.bT+1,gD.loop ⟨bI,N,ps.toList,assign,body,.ready,none⟩)::s.heap) i=bH ((s.bT+1,gD.loop ⟨bI,N,ps.toList,assign,body,.ready,none⟩)::(s.bT,gD.gr)::s.heap) i:=λi=>by
   simp only[cV,cM]
   by_cases h1:s.bT=i
   ·rw[dD h1,dM (by omega),dD h1]
   ·rw[dM h1,dM h1]
  have p5:eL G2 ⟨(s.bT,.gr)::(s.bT+1,.loop ⟨bI,N,ps.toList,assign,body,.ready,none⟩)::s.heap,s.bT+2⟩ w2:=p3.drop (λi b hb=>by rw[<-XV];exact hb) (eF _)
  have p6:eL G2 ⟨(s.bT+1,.loop ⟨bI,N,ps.toList,assign,body,.ready,none⟩)::s.heap,s.bT+2⟩ w2:=p5.drop (λi b hb=>by
   simp only[cV,cM]at hb |-
   by_cases h1:s.bT=i
   ·subst h1;rw[dM (by omega),VS]at hb;cases hb
   ·rw[dM h1];exact hb) (eF _)
  have Ga:(a.eval g)=.func (.func gf) #[] vs:=hq
  refine⟨w.heap.size+1,[{target:=.collected w.heap.size,args:= #[]}],w2,{target:=.fn (.func gf) vs,args:= #[.func (.yield (w.heap.size+1)) #[] #[]]},w2,gf,
   #[.func (.yield (w.heap.size+1)) #[] #[]]++vs,w2,?_,?_,λ_ _=>trivial,?_,(λh=>by cases h),?_⟩
  ·rw[<-zY]
   exact run_enterLoop_outer _ _ _ _ _
  ·simp only[resolve,Ga]
   simp[go_sem]
  ·simp[invoke,go_sem,LN he]
  ·have LP:VL G2 (.kK (s.bT+1)::fQ) (#[.func (.yield (w.heap.size+1)) #[] #[]]++vs):=by
    have l1:VL G2 [.kK (s.bT+1)] #[.func (.yield (w.heap.size+1)) #[] #[]]:=⟨rfl,λi x y hx hy=>by
     cases i with
     |zero=>simp at hx hy;subst hx;subst hy;exact .kK _ _ LO
     |succ i=>simp at hx⟩
    exact l1.append (VL.mono x02.le ⟨Of,Je⟩)
   refine(qc (h G2 w2 _ p6 LP)).mono ?_
   rintro e w3 ⟨v,G3,x,s3,rfl,ZP,XW,Uu,l,g3,iz,qp⟩
   obtain⟨q1,q2⟩:=p5.VO (s:=⟨(s.bT+1,.loop ⟨bI,N,ps.toList,assign,body,.ready,none⟩)::s.heap,s.bT+2⟩) (by simp) (by simp[cV,cM,VS]) XW Uu
   have DU:=Uu.le.own _ _ LO
   have Sa:bH ((s.bT,gD.gr)::s3.heap) (s.bT+1)=some (.loop l):=by simp[cV,cM,g3]
   obtain⟨XT,HO,d3,QM,LM,Sb⟩:=qW q1 Sa DU
   obtain⟨u1,u2⟩:=qX q1 (l':={l with state:=.exhausted}) Sa DU QM LM Sb rfl
   have x05:Ext G2 ⟨(s.bT+1,.loop ⟨bI,N,ps.toList,assign,body,.ready,none⟩)::(s.bT,.gr)::s.heap,s.bT+2⟩ w2 G2 ⟨(s.bT,.gr)::(s.bT+1,.loop ⟨bI,N,ps.toList,assign,body,.ready,none⟩)::s.heap,s.bT+2⟩ w2:=
    Ext.drop (λi b hb=>by rw[<-XV];exact hb) (eF _) (λi hi=>by rw[XV];exact hi)
   have DV:Ext G s w G3 _ _:=((x02.trans hs x05).trans hs q2).trans hs u2
   have DW: ∀i b,bH ([(s.bT,gD.gr)]++eB s3.heap (s.bT+1)) i=some b->bH (ic ⟨(s.bT,.gr)::s3.heap,s3.bT⟩ (s.bT+1) {l with state:=.exhausted}).heap i=some b:=λi b hb=>by
    simp only[wI,rN,cV,cM]at hb
    simp only[ic,eO]
    by_cases h1:s.bT=i
    ·subst h1;rw[dM (by omega)];simpa[cV,cM]using hb
    ·rw[dM h1,fH]at hb
     split at hb
     ·cases hb
     ·rename_i h2;rw[dM h2];simp only[cV,cM];rw[dM h1];exact hb
   have DX: ∀i,bH (ic ⟨(s.bT,.gr)::s3.heap,s3.bT⟩ (s.bT+1) {l with state:=.exhausted}).heap i=some .gr->bH ([(s.bT,gD.gr)]++eB s3.heap (s.bT+1)) i=some .gr:=λi hi=>by
    simp only[ic,eO]at hi
    split at hi
    ·cases hi
    ·rename_i h2
     simp only[wI,rN,cV,cM]at hi |-
     split
     ·rfl
     ·rename_i h1;rw[dM h1]at hi;rw[fH,dM h2];exact hi
   have n4:xe G3 N none bI ⟨[(s.bT,.gr)]++eB s3.heap (s.bT+1),s3.bT⟩ {a with defers:={target:=.collected w.heap.size,args:= #[]}::a.defers} (w3.putObj (w.heap.size+1) (.loop {state:=.exhausted,pending:=l.pending,fn:=XT,tmps:=HO,params:=l.params.toArray,assign:=l.assign,body:=l.body,defers:=d3})):=by
    refine⟨u1.drop DW (eF _),hn.bI.mono DV.le,hn.size,⟨⟨s.bT,⟨w.heap.size,0,0,0⟩,by simp[cV,cM],Uu.le.own _ _ ZQ,rfl,λd' uX b hb=>?_⟩,?_⟩,λi e=>by cases e⟩
    ·have:=HP hs hn.mg d' uX b hb
     show b≠w.heap.size
     omega
    ·exact(hn.mg.ext DV).drop DX
   have Cf:Ext G s w G3 ⟨[(s.bT,.gr)]++eB s3.heap (s.bT+1),s3.bT⟩ _:=DV.trans hs (Ext.drop DW (eF _) DX)
   refine⟨l.pending,_,run_endLoop QM iz,?_⟩
   cases JI:l.pending with
   |none=>
    simp only[JI]at qp
    rw[JI]at n4 Cf
    exact⟨G3,bI,_,n4,Cf,qp⟩
   |some c=>
    simp only[JI]at qp
    rw[JI]at n4 Cf
    exact lT.later qp hs hn.known Cf n4
theorem yl{iS:Nat}{l0:vW}(An:bH s.heap iS=some (.loop l0)){g:Operand}{ps:Array Tmp}{assign body:Code}{gf:FuncId}{fQ:List AV}(hg:oper bI g=some (.fn gf fQ))(he:enters P gf=true)
  (h:dQ P gf (.kK s.bT::fQ) ⟨(s.bT,.loop ⟨bI,N,ps.toList,assign,body,.ready,none⟩)::s.heap,s.bT+1⟩
   (λ_ s'=>Ce P N (some iS) Q bI s.bT [] s')):lT P N (some iS) (.rangeFunc g ps assign body) Q bI s:=λG w a hn=>by
 refine wpIn_rangeFunc λfn _=>?_
 have HH:=eM hn.bI hg
 generalize hq:a.eval g=fv at HH
 cases HH with
 |fn _ _ vs Of Je=>
  have hs:=hn.iQ
  obtain⟨r0,hr0⟩:=hn.known iS rfl
  obtain⟨fn0,aaJ,d0,Vk,_,_⟩:=qW hs An hr0
  obtain⟨p3,p4⟩:=hs.put (o:=.loop {state:=.ready,pending:=none,fn:=fn,tmps:=a.tmps,params:=ps,assign:=assign,body:=body,defers:=d0})
   (blk:=.loop ⟨bI,N,ps.toList,assign,body,.ready,none⟩) (r:=⟨w.heap.size,0,0,0⟩) rfl
   (by
    have:=Holds.loop (G:=cg.put G s.bT ⟨w.heap.size,0,0,0⟩) (r:=⟨w.heap.size,0,0,0⟩) ⟨bI,N,ps.toList,assign,body,.ready,none⟩ fn a.tmps d0 hn.size (hn.bI.mono (.put (hs.ct _ (eF _))))
    simpa using this)
  generalize XU:cg.put G s.bT ⟨w.heap.size,0,0,0⟩=G2 at p3 p4
  have LO:G2.own s.bT=some ⟨w.heap.size,0,0,0⟩:=by rw[<-XU];simp[cg.put]
  generalize zY:w.alloc (.loop {state:=.ready,pending:=none,fn:=fn,tmps:=a.tmps,params:=ps,assign:=assign,body:=body,defers:=d0})=w2 at p3 p4
  have Ga:(a.eval g)=.func (.func gf) #[] vs:=hq
  refine⟨w.heap.size,[],w2,{target:=.fn (.func gf) vs,args:= #[.func (.yield w.heap.size) #[] #[]]},w2,gf,
   #[.func (.yield w.heap.size) #[] #[]]++vs,w2,?_,?_,λ_ _=>trivial,?_,(λh=>by cases h),?_⟩
  ·rw[<-zY,show(vd (wL G (some iS))).round=some r0.block from by simp[vd,wL,hr0]]
   exact run_enterLoop_inner Vk _ _ _ _ _
  ·simp only[resolve,Ga]
   simp[go_sem]
  ·simp[invoke,go_sem,LN he]
  ·have LP:VL G2 (.kK s.bT::fQ) (#[.func (.yield w.heap.size) #[] #[]]++vs):=by
    have l1:VL G2 [.kK s.bT] #[.func (.yield w.heap.size) #[] #[]]:=⟨rfl,λi x y hx hy=>by
     cases i with
     |zero=>simp at hx hy;subst hx;subst hy;exact .kK _ _ LO
     |succ i=>simp at hx⟩
    exact l1.append (VL.mono p4.le ⟨Of,Je⟩)
   refine(qc (h G2 w2 _ p3 LP)).mono ?_
   rintro e w3 ⟨v,G3,x,s3,rfl,ZP,XW,Uu,l,g3,iz,qp⟩
   have DU:=Uu.le.own _ _ LO
   obtain⟨XT,HO,d3,QM,LM,Sb⟩:=qW XW g3 DU
   obtain⟨u1,u2⟩:=qX XW (l':={l with state:=.exhausted}) g3 DU QM LM Sb rfl
   have DV:Ext G s w G3 _ _:=(p4.trans hs Uu).trans hs u2
   have DW: ∀i b,bH ([]++eB s3.heap s.bT) i=some b->bH (ic s3 s.bT {l with state:=.exhausted}).heap i=some b:=λi b hb=>by
    simp only[rN,fH]at hb
    simp only[ic,eO]
    split at hb
    ·cases hb
    ·rename_i h2;rw[dM h2];exact hb
   have DX: ∀i,bH (ic s3 s.bT {l with state:=.exhausted}).heap i=some .gr->bH ([]++eB s3.heap s.bT) i=some .gr:=λi hi=>by
    simp only[ic,eO]at hi
    split at hi
    ·cases hi
    ·rename_i h2
     simp only[rN]
     rw[fH,dM h2];exact hi
   have Cf:Ext G s w G3 ⟨[]++eB s3.heap s.bT,s3.bT⟩ _:=DV.trans hs (Ext.drop DW (eF _) DX)
   have n4:xe G3 N (some iS) bI ⟨[]++eB s3.heap s.bT,s3.bT⟩ {a with defers:=[]++a.defers} (w3.putObj w.heap.size (.loop {state:=.exhausted,pending:=l.pending,fn:=XT,tmps:=HO,params:=l.params.toArray,assign:=l.assign,body:=l.body,defers:=d3})):=
    ⟨u1.drop DW (eF _),hn.bI.mono DV.le,hn.size,by simpa using(hn.mg.ext DV).drop DX,hn.known.le DV.le⟩
   refine⟨l.pending,_,run_endLoop QM iz,?_⟩
   cases JI:l.pending with
   |none=>
    simp only[JI]at qp
    rw[JI]at n4 Cf
    exact⟨G3,bI,_,n4,Cf,qp⟩
   |some c=>
    simp only[JI]at qp
    rw[JI]at n4 Cf
    exact lT.later qp hs hn.known Cf n4
end
end Go.Am
end
section
namespace Go.Am
open Go.RowKit
def ym(n:Nat)(p:Nat->Bool):Bool:=(List.range n).all p
def oU{α:Type}(o:Option α)(p:α->Bool):Bool:=match o with
 |some x=>p x
 |none=>true
theorem jZ{α:Type}{o:Option α}{p:α->Bool}:oU o p=true↔ ∀x∈o,p x=true:=by
 cases o<;>simp[oU]
def jE(x:Nat)(l:List Nat):Bool:=l.any λy=>Nat.beq x y
theorem nT{x:Nat}{l:List Nat}:jE x l=true↔x∈l:=by
 simp only[jE,vV]
 constructor
 ·rintro⟨y,h1,h2⟩;rw[jh h2];exact h1
 ·intro h;exact⟨x,h,Og x⟩
def Sc(l:List Oper)(pre:List (List Nat)):Bool:=ym l.length λi=>oU l[i]? λo=>
 (direct o).all (λp=>decide (p<i))&&(iG pre i).all λp=>decide (p<i)&&(jE p (direct o)||(direct o).any λd=>jE p (iG pre d))
def Uv(a b:Option Nat):Bool:=match a,b with
 |some x,some y=>Nat.beq x y
 |_,_=>false
theorem DY{a b:Option Nat}{t:Nat}(ha:a=some t)(hb:b=some t):Uv a b=true:=by subst ha;subst hb;exact Og t
theorem O5{a b:Option Nat}:Uv a b=true-> ∃t,a=some t/\b=some t:=by
 unfold Uv
 split
 ·rename_i x y;intro h;exact⟨x,rfl,by rw[jh h]⟩
 ·intro h;cases h
def VT(l:List Oper):Bool:=ym l.length λi=>ym l.length λj=>!(Uv (iH l i) (iH l j))||Nat.beq i j
def Sd(l:List Oper)(pre:List (List Nat)):Bool:=ym l.length λi=>oU l[i]? λo=>(iF o++wc l o).all λt=>
 (iG pre i).any (λu=>Uv (iH l u) (some t))||ym l.length λu=>!(Uv (iH l u) (some t))||jE i (iG pre u)
def QN(l:List Oper)(bN:List Step):Bool:=bN.all (λst=>decide (st.idx<l.length))&&ym l.length (λi=>jE i (bN.map Step.idx))&&decide (bN.map Step.idx).Nodup
def O6(pre:List (List Nat))(bN:List Step):Bool:=ym bN.length λk=>oU bN[k]? λst=>(iG pre st.idx).all λp=>jE p ((bN.take k).map Step.idx)
def xB(xs:List (Nat×Nat))(x y:Nat):Bool:=xs.any λp=>Nat.beq p.1 x&&Nat.beq p.2 y
def Se(xs:List (Nat×Nat))(pre:List (List Nat))(bN:List Step):Bool:=ym bN.length λk=>oU bN[k]? λst=>!st.waits||(bN.drop (k+1)).all λst2=>st2.HL||jE st.idx (iG pre st2.idx)||xB xs st.idx st2.idx
def Sf(P:Program)(l:List Oper)(bN:List Step):Bool:=bN.all λst=>oU l[st.idx]? λo=>match st with
 |.iD _ _=>fV o.op
 |.ir _ _=>true
 |.alloc _=>(match o.op with|.alloc t=>(vX P t).isSome|_=>false)&&o.guard.isNone&&o.dst.isSome
def O7(l:List Oper)(pre:List (List Nat))(bN:List Step):Bool:=ym bN.length λk=>oU bN[k]? λst=>match st with
 |.ir h wS=>(bN.take k).all λst2=>match st2 with
  |.iD j note=>oU l[j]? λo=>kh o.op||jE j (iG pre h)||(note&&jE j wS)
  |_=>true
 |_=>true
def Gb(xs:List (Nat×Nat))(P:Program)(N:Nat)(l:List Oper)(pre:List (List Nat))(bN:List Step):Bool:=
 Sc l pre&&VT l&&qj N l&&nS l&&Sd l pre&&QN l bN&&O6 pre bN&&Se xs pre bN&&Sf P l bN&&O7 l pre bN
def LQ(P:Program)(N:Nat)(l:List Oper)(pre:List (List Nat))(bN:List Step):Bool:=Gb [] P N l pre bN
theorem kB{n:Nat}{p:Nat->Bool}:ym n p=true↔ ∀i∈List.range n,p i=true:=by simp[ym,pT]
theorem JJ{xs:List (Nat×Nat)}{P:Program}{N:Nat}{l:List Oper}{pre:List (List Nat)}{bN:List Step}(h:Gb xs P N l pre bN=true):gM (λx y=>xB xs x y=true) P N l pre bN:=by
 simp only[Gb,fi]at h
 obtain⟨⟨⟨⟨⟨⟨⟨⟨⟨h1,h2⟩,h3⟩,h4⟩,h5⟩,h6⟩,h7⟩,h8⟩,h9⟩,VB⟩:=h
 refine⟨?_,?_,h3,h4,?_,?_,?_,?_,?_,?_⟩
 ·intro i hi o ho
  have:=jZ.1 (kB.1 h1 i hi) o ho
  simp only[fi,pT,xL,tz,vV,nT]at this
  exact⟨this.1,λp hp=>⟨(this.2 p hp).1,(this.2 p hp).2⟩⟩
 ·intro i hi j hj t ht Ur
  have:=kB.1 (kB.1 h2 i hi) j hj
  simp only[tz,p9]at this
  rcases this with h|h
  ·rw[DY (show iH l i=some t from ht) Ur]at h;cases h
  ·exact jh h
 ·intro i hi o ho t ht
  have:=pT.1 (jZ.1 (kB.1 h5 i hi) o ho) t ht
  simp only[tz,vV]at this
  rcases this with⟨u,hu,h⟩|h
  ·obtain⟨t',e1,e2⟩:=O5 h
   cases e2
   exact .inl ⟨u,hu,e1⟩
  ·refine .inr λu hu hd=>?_
   have:=kB.1 h u hu
   simp only[tz,p9]at this
   rcases this with g|g
   ·rw[DY hd rfl]at g;cases g
   ·exact nT.1 g
 ·simp only[QN,fi,pT,xL]at h6
  exact⟨h6.1.1,λi hi=>nT.1 (kB.1 h6.1.2 i hi),h6.2⟩
 ·intro k hk st iz p hp
  exact nT.1 (pT.1 (jZ.1 (kB.1 h7 k hk) st iz) p hp)
 ·intro k hk st iz hw st2 F9
  have:=jZ.1 (kB.1 h8 k hk) st iz
  simp only[hw,p8,Hx,pT,tz,fi,p9,nT]at this
  rcases this st2 F9 with(g|g)|g
  ·exact .inl g
  ·exact .inr (.inl g)
  ·exact .inr (.inr g)
 ·intro st iz o ho
  have:=jZ.1 (pT.1 h9 st iz) o ho
  cases st with
  |iD i n=>exact this
  |ir i c=>trivial
  |alloc i=>
   simp only[fi,Option.isNone_iff_eq_none]at this
   refine⟨?_,this.1.2,this.2⟩
   have h:=this.1.1
   show(match o.op with|.alloc t=>(vX P t).isSome=true|_=>False)
   cases yb:o.op<;>simp only[yb]at h |- <;>first|exact h|(cases h;done)
 ·intro k hk st iz
  have:=jZ.1 (kB.1 VB k hk) st iz
  cases st with
  |iD i n=>trivial
  |alloc i=>trivial
  |ir h wS=>
   intro st2 F9
   have:=pT.1 this st2 F9
   cases st2 with
   |iD j note=>
    intro o ho
    have:=jZ.1 this o ho
    simp only[tz,fi,nT]at this
    rcases this with(h|h)|h
    ·exact .inl h
    ·exact .inr (.inl h)
    ·exact .inr (.inr h)
   |ir i c=>trivial
   |alloc i=>trivial
theorem LR{P:Program}{N:Nat}{l:List Oper}{pre:List (List Nat)}{bN:List Step}(h:LQ P N l pre bN=true):LD P N l pre bN:=
 let q:=JJ h
 ⟨q.LA,q.Vz,q.JD,q.ZF,q.reads,q.perm,q.LB,λk hk st iz hw st2 h2=>(q.waits k hk st iz hw st2 h2).imp id (Or.imp id λe=>by cases e),q.kinds,q.LC⟩
end Go.Am
end
