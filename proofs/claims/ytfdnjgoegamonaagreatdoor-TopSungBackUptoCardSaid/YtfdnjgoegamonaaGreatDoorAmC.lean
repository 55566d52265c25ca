/- The logic AM, C: regions, functions, drawn regions, ranges over functions. -/
import Derived.Test.YtfdnjgoegamonaaGreatDoorAmB
import Derived.RangeFuncNested
set_option linter.all false
section
namespace Go.Am
open Go.RowKit
section
variable {P:Program} {N:Nat} {ρ:Option Nat} {Q:Exit->Env->St->Prop} {bX:Env} {s:St} {G:cx} {a:Act} {w:World}
theorem xF.put{G':cx}{s':St}{w':World}{x:AV}{v:Value}{d:Option Nat}(h:xF G N ρ bX s a w)(hd:ng N d=true)(hv:V G' x v)(hs:eQ G' s' w')(hx:Ext G s w G' s' w'):
  xF G' N ρ (fQ d x bX) s' (a.put d v) w':=by
 refine⟨hs,?_,?_,?_,h.known.le hx.le⟩
 ·intro t y hy;cases d with
  |none=>exact(h.bX.mono hx.le) t y hy
  |some d=>
   simp only[ng,AE]at hd;have gl:d<a.tmps.size:=by rw[h.size];exact hd
   simp only[Go.Am.fQ,ff]at hy;simp only[Act.put,Array.size_setIfInBounds];split at hy
   ·rename_i he;subst he;cases hy;exact⟨gl,by simp[wx,gl];exact hv⟩
   ·rename_i he;obtain⟨e1,e2⟩:=(h.bX.mono hx.le) t y hy;refine⟨e1,?_⟩;rw[wx,VX he,<-wx];exact e2
 ·cases d<;>simp[Act.put,h.size]
 ·cases d<;>exact h.mM.ext hx
theorem Bv{op:Op}{f:Operand}{l:List Operand}(h:gx op=some (f,l)): ∃args ts,op=.call ⟨.value f,args,ts⟩/\l=args.toList:=by
 unfold gx at h;split at h
 ·cases h;exact⟨_,_,rfl,rfl⟩
 ·cases h
theorem vE{o:Oper}{K:AV->St->Prop}{next:Act->World->Prop}{R:Exit->Act->World->Prop}(h:V8 P o K bX s)(hn:xF G N ρ bX s a w)(ro:Option Nat)
  (hK: ∀v G' x s' w',V G' x v->eQ G' s' w'->Ext G s w G' s' w'->K x s'->next (a.put o.dst v) w'):o.wpIn (vx ro) 0 P a w next R:=by
 refine⟨λ_ _=>trivial,?_⟩;unfold V8 at h;split at h
 ·rename_i f args hc;obtain⟨arr,ts,yB,rfl⟩:=Bv hc;have Cx:o.semAt (vx ro).round a.eval=execOp a.eval o:=Oper.semAt_eq _ _ _ (λc=>by rw[yB];simp);rw[Cx];split at h
  ·rename_i g gk l hf hl;obtain⟨he,Ws⟩:=h;have Ir:=fe hn.bX hf;have Is:=ue hn.bX hl;generalize hq:a.eval f=fv at Ir;cases Ir with
   |fn _ _ vs h1 h2=>
    unfold enters at he;split at he
    case h_2=>cases he
    rename_i fn LS;simp only[fE,bne_iff_ne,rz]at he;have L4: ¬fn.body=none:=by cases hb:fn.body<;>simp[hb]at he |-
    have fM:(execOp a.eval o).run P w=.ok (.enter g (arr.map a.eval++vs)) w:=by
     simp[execOp,yB,resolve,Deferred.ofValue,hq,invoke,callFunc,LS,he.1,L4]
    rw[fM,Oper.uponIn_enter];refine⟨(λh=>by cases h),?_⟩;exact(qu (Ws G w _ hn.jd (Is.append ⟨h1,h2⟩))).mono λe w' ⟨v,G',x,s',e1,e2,e3,e4,e5⟩=>by subst e1;exact hK v G' x s' w' e2 e3 e4 e5
  ·rename_i id l hf hl;have Ir:=fe hn.bX hf;have Is:=ue hn.bX hl;generalize hq:a.eval f=fv at Ir;cases Ir with
   |lf _ r ho=>
    obtain⟨fn,tmps,assign,body,y1,y2⟩:=h ro G w r _ hn.jd ho Is;have fM:(execOp a.eval o).run P w=.ok (.round r.block fn tmps assign body) w:=by
     simp[execOp,yB,resolve,Deferred.ofValue,hq,invoke,y1]
    rw[fM,Oper.uponIn_round];refine⟨(λh=>by cases h),?_⟩;exact y2.mono λe w' ⟨v,G',x,s',e1,e2,e3,e4,e5⟩=>by subst e1;exact hK v G' x s' w' e2 e3 e4 e5
  ·cases h
 ·split at h
  case h_2=>cases h
  rename_i x s' hx;have Cx:o.semAt (vx ro).round a.eval=execOp a.eval o:=Oper.semAt_eq _ _ _ (λc=>by
   intro e;rw[e]at hx;simp[jc]at hx)
  rw[Cx];obtain⟨nx,v,G',w',e1,e2,e3,e4,e5⟩:=vD hn.jd hn.bX o hx;rw[e1];rcases e2 with rfl|⟨rfl,rfl⟩
  ·rw[Oper.uponIn_value];exact hK v G' x s' w' e3 e4 e5 h
  ·rw[Oper.uponIn_skip];exact hK undef G' x s' w' e3 e4 e5 h
theorem J7{ops:Array Oper}{o:Oper}{A B:Prop}(h:Yx ops o bX A B)(hv:jx G bX a.tmps):
  (Region.wanted o (yielded ops a.tmps)=true/\A)\/(Region.wanted o (yielded ops a.tmps)=false/\B):=by
 unfold Yx at h;unfold Region.wanted;split at h
 ·rename_i hg;exact .inl ⟨by simp[hg],h⟩
 ·rename_i j want hg;split at h
  case h_2=>cases h
  rename_i d hd;split at h
  ·rename_i b hb;obtain⟨e1,e2⟩:=hv d _ hb;have hy:yielded ops a.tmps j=some b:=by
    unfold yielded;rw[hd];simp only[dm];rw[wx,Lj e1,Ce]at e2;rw[Lj e1];generalize a.tmps[d]=v at e2;cases e2;rfl
   rw[hg];simp only[hy];by_cases L5:b=want
   ·exact .inl ⟨by simp[L5],h.1 L5⟩
   ·exact .inr ⟨by simp[L5],h.2 (by cases b<;>cases want<;>simp_all)⟩
  ·rename_i hb;obtain⟨e1,e2⟩:=hv d _ hb;have hy:yielded ops a.tmps j=none:=by
    unfold yielded;rw[hd];simp only[dm];rw[wx,Lj e1,Ce]at e2;rw[Lj e1];generalize a.tmps[d]=v at e2;cases e2;rfl
   rw[hg];simp only[hy];exact .inr ⟨by simp,h⟩
  ·cases h
def L6(P:Program)(bX:Env)(s:St):ResultVar->Option AV
 |.tmp t=>bJ bX t
 |.cell t ty=>match bJ bX t with
  |some p=>qd P ty p s
  |none=>none
def wG(P:Program)(bX:Env)(s:St):List ResultVar->Option (List AV)
 | []=>some []
 |r::l=>match L6 P bX s r,wG P bX s l with
  |some x,some xs=>some (x::xs)
  |_,_=>none
def lU(P:Program)(rs:Array ResultVar)(bX:Env)(s:St):Option AV:=match wG P bX s rs.toList with
 |some [x]=>some x
 |some l=>some (.eC l)
 |none=>none
def It(tmps:Array Value)(r:ResultVar):Sem Value:=match r with
 |.tmp t=>pure (tmps.getD t undef)
 |.cell a t=>do loadVar t (<-asAddr (tmps.getD a undef))
theorem Iu(hs:eQ G s w){w2:World}(hw: ∀a,w2.cell? a=w.cell? a){tmps:Array Value}(he:jx G bX tmps): ∀{l:List ResultVar}{xs:List AV},wG P bX s l=some xs->
  ∃vs:List Value,(l.mapM (It tmps)).run P w2=.ok vs w2/\VL G xs vs.toArray
 | [],xs,h=>by simp[wG]at h;subst h;exact⟨[],rfl,rfl,by simp⟩
 |r::l,xs,h=>by
  simp only[wG]at h;split at h
  case h_2=>cases h
  rename_i x ys hx Ek;cases h;obtain⟨vs,e1,e2⟩:=Iu hs hw he Ek;have one: ∃v,(It tmps r).run P w2=.ok v w2/\V G x v:=by
   cases r with
   |tmp t=>exact⟨_,rfl,(he t x hx).2⟩
   |cell t ty=>
    simp only[L6]at hx;split at hx
    case h_2=>cases hx
    rename_i p hp;unfold qd at hx;split at hx
    case h_2=>cases hx
    rename_i cs s8;obtain⟨b,o,hpv,ht⟩:=sM hs (he t p hp).2 s8;have AG:qx G w2 b o cs:=λk x hx=>by rw[hw];exact ht k x hx
    obtain⟨v,r1,r2⟩:=AG.read (P:=P) hx;exact⟨v,by simp[It,hpv,asAddr,r1],r2⟩
  obtain⟨v,o1,o2⟩:=one;refine⟨v::vs,by simp[List.mapM_cons,o1,e1],by simpa using e2.1,λi p q hp hq=>?_⟩;cases i with
  |zero=>simp at hp hq;subst hp;subst hq;exact o2
  |succ i=>exact e2.2 i p q (by simpa using hp) (by simpa using hq)
theorem GH(hs:eQ G s w){w2:World}(hw: ∀a,w2.cell? a=w.cell? a){tmps:Array Value}(he:jx G bX tmps){fn:Func}{x:AV}(h:lU P fn.results bX s=some x):
  ∃v,(results fn tmps).run P w2=.ok v w2/\V G x v:=by
 unfold lU at h;have key: ∀xs,wG P bX s fn.results.toList=some xs-> ∃vs:List Value,(results fn tmps).run P w2=.ok (if h:vs.toArray.size=1 then vs.toArray[0]else .tuple vs.toArray) w2/\VL G xs vs.toArray:=by
  intro xs hxs;obtain⟨vs,e1,e2⟩:=Iu (P:=P) hs hw he hxs;refine⟨vs,?_,e2⟩;have hr:results fn tmps=(do let vs<-fn.results.mapM (It tmps);pure (if h:vs.size=1 then vs[0]else .tuple vs)):=by
   unfold results;congr 1
  rw[hr,Sem.run_bind,Array.mapM_eq_mapM_toList,Sem.run_map,e1]
  try rfl
 split at h
 ·rename_i y hy;cases h;obtain⟨vs,e1,e2⟩:=key _ hy;have hl:vs.length=1:=by simpa using e2.1.symm
  match vs,hl with
  | [v],_=>exact⟨v,by simpa using e1,e2.2 0 x v rfl rfl⟩
 ·rename_i l hl eU;cases h;obtain⟨vs,e1,e2⟩:=key _ eU;have dJ: ¬vs.toArray.size=1:=λhh=>by
   rw[<-e2.1]at hh
   match l,hh with
   | [y],_=>exact hl y rfl
  rw[dif_neg dJ]at e1;exact⟨_,e1,.eC _ _ e2.1 e2.2⟩
 ·cases h
def GI(s' s:St):Prop:=(∀id b,bJ s'.heap id=some b->bJ s.heap id=some b/\b≠ .gK)/\s.cr<=s'.cr
def J8(P:Program)(rs:Array ResultVar)(K:AV->St->Prop):Exit->Env->St->Prop
 |.normal,bX,s|.ret,bX,s=> ∃x s',lU P rs bX s=some x/\GI s' s/\K x s'
 |_,_,_=>False
def nY(l:List AV):Nat->Env
 |k=>match l with
  | []=>[]
  |x::r=>(k,x)::nY r (k+1)
theorem yE: ∀(l:List AV)(k t:Nat)(x:AV),bJ (nY l k) t=some x->k<=t/\l[t-k]? =some x
 | [],k,t,x,h=>by simp[nY,di,cZ]at h
 |y::r,k,t,x,h=>by
  simp only[nY,di,cZ]at h;split at h
  ·rename_i he;subst he;cases h;simp
  ·obtain⟨h1,h2⟩:=yE r (k+1) t x h;refine⟨by omega,?_⟩;rw[show t-k=(t-(k+1))+1 from by omega];simpa using h2
structure L7 (G:cx) (s:St) (w w':World):Prop where
 size:w'.heap.size=w.heap.size
 os:w'.os=w.os
 tape:w'.tape=w.tape
 output:w'.output=w.output
 drawn:w'.drawn=w.drawn
 heap: ∀b:Nat,w'.heap[b]? =w.heap[b]?\/((∃x,w.heap[b]? =some (.deferred x))/\(∃y,w'.heap[b]? =some (.deferred y))/\ ∃id r,bJ s.heap id=some .gK/\G.own id=some r/\r.block=b)
theorem L7.refl(G:cx)(s:St)(w:World):L7 G s w w:=⟨rfl,rfl,rfl,rfl,rfl,λ_=>.inl rfl⟩
theorem L7.cell{w':World}(h:L7 G s w w')(x:Addr):w'.cell? x=w.cell? x:=by
 rcases h.heap x.block with e|⟨⟨y,e1⟩,⟨z,e2⟩,_⟩
 ·exact World.cell?_of_block (w:=w) e
 ·simp[World.cell?,e1,e2]
theorem uk{F:Fence}{fn:Func}{tmps:Array Value}{R:Ending->World->Prop}: ∀(ds:List Deferred)(s:St)(w:World),eQ G s w->pE G s ds->
  (∀w',L7 G s w w'-> ∃v,(results fn tmps).run P w'=.ok v w'/\R (.returned v) w')->LeavesInM F 0 P fn tmps R ds .returning w
 | [],s,w,hs,_,h=>by
  obtain⟨v,h1,h2⟩:=h w (.refl _ _ _);exact⟨v,h1,h2⟩
 |d::ds,s,w,hs,⟨⟨id,r,hg,ho,ht,eU⟩,hr⟩,h=>by
  obtain⟨o,e2,e3⟩:=hs.at hg ho;cases e3;refine⟨by simp,.inl ⟨r.block,{w with heap:=w.heap.setIfInBounds r.block (.deferred none)},ht,?_,?_⟩⟩
  ·simp[Instr.takeDeferred,getObj,setObj,Sem.run,e2]
  ·have gl:r.block<w.heap.size:=(Rc.1 e2).1;have gd: ∀i b,bJ (eN s.heap id) i=some b->i≠id/\bJ s.heap i=some b:=λi b hi=>by
    rw[fU]at hi;split at hi
    ·cases hi
    ·exact⟨by omega,hi⟩
   have hk: ∀b,b≠r.block->(w.heap.setIfInBounds r.block (.deferred none))[b]? =w.heap[b]?:=λb hb=>VX (λe=>hb e.symm);refine uk ds ⟨eN s.heap id,s.cr⟩ _ ?_ ?_ ?_
   ·refine⟨⟨λb o v hi=>?_,hs.kS.2⟩,λi b hi=>?_,λi i' b b' r1 r2 h1 h2=>hs.apart i i' b b' r1 r2 (gd _ _ h1).2 (gd _ _ h2).2,λi b r1 o hi qo=>hs.clear i b r1 o (gd _ _ hi).2 qo,hs.cE,λi b hi=>hs.lt i b (gd _ _ hi).2⟩
    ·have hb:b≠r.block:=λe=>by subst e;rw[hs.clear id _ r o hg ho]at hi;cases hi
     have:=hs.ir b o v hi;rwa[World.cell?_of_block (w:=w) (hk b hb)]
    ·obtain⟨nH,kN⟩:=gd i b hi;rcases hs.heap i b kN with⟨r1,o1,q1,q2,q3⟩|e
     ·exact .inl ⟨r1,o1,q1,by rw[hk _ (hs.apart i id b _ r1 r kN hg q1 ho nH)];exact q2,q3⟩
     ·exact .inr e
   ·have aux: ∀(l:List Deferred),(∀d'∈l,∀b,d'.target=.collected b->b≠r.block)->pE G s l->pE G ⟨eN s.heap id,s.cr⟩ l:=by
     intro l
     induction l with
     |nil=>intro _ _;trivial
     |cons d' l ih=>
      intro jz ⟨⟨i,r1,a1,a2,a3,a4⟩,wH⟩;refine⟨⟨i,r1,?_,a2,a3,a4⟩,ih (λd'' hd=>jz d'' (by simp[hd])) wH⟩;have hb:=jz d' (by simp) r1.block a3;show bJ (eN s.heap id) i=some .gK;rw[fU,dY (λe=>by subst e;rw[ho]at a2;cases a2;exact hb rfl)];exact a1
    exact aux ds eU hr
   ·intro w' AH;refine h w' ⟨by rw[AH.size];simp,AH.os,AH.tape,AH.output,AH.drawn,λb=>?_⟩;by_cases hb:b=r.block
    ·subst hb;refine .inr ⟨⟨_,e2⟩,?_,id,r,hg,ho,rfl⟩;rcases AH.heap r.block with e|⟨_,e,_⟩
     ·exact⟨none,by rw[e];simp[gl]⟩
     ·exact e
    ·rcases AH.heap b with e|⟨⟨x,q1⟩,q2,i,r1,q3,q4,q5⟩
     ·exact .inl (e.trans (hk b hb))
     ·exact .inr ⟨⟨x,by rw[<-hk b hb];exact q1⟩,q2,i,r1,(gd i _ q3).2,q4,q5⟩
theorem Cy{f:FuncId}{fn:Func}{c:Code}{args:List AV}{K:AV->St->Prop}(hf:P.funcs[f]? =some fn)(hb:fn.body=some c)(hn:args.length<=fn.ntmps)
  (aah: ∀id,bJ s.heap id≠some .gK) (h:mu P fn.ntmps none c (J8 P fn.results K) (nY args 0) s):dQ P f args s K:=λG w vs hs hv=>by
 refine callsIn_wide (n:=0) |>.1 ?_
 refine callsIn_of_wp_marks hf hb trivial ?_;have J9:xF G fn.ntmps none (nY args 0) s {tmps:=vs++Array.replicate (fn.ntmps-vs.size) undef,defers:=[]} w:=by
  refine⟨hs,λt x hx=>?_,?_,trivial,λid e=>by cases e⟩
  ·obtain⟨_,h2⟩:=yE args 0 t x hx;simp only[Nat.sub_zero]at h2;obtain⟨v,e1,e2⟩:=hv.get h2;have gl:t<vs.size:=(Rc.1 e1).1;refine⟨by simp;omega,?_⟩;rw[wx,Yn gl,e1];exact e2
  ·have:=hv.1;simp;omega
 have:=h G w _ J9;refine wpIn_mono this ?_;rintro e a' w' ⟨G',env',s',n',x',q'⟩;have fin:(∃x s2,lU P fn.results env' s'=some x/\GI s2 s'/\K x s2)->LeavesInM Fence.wide 0 P fn a'.tmps (xe G s w K) a'.defers .returning w':=by
  rintro⟨x,s2,hx,hl,hk⟩;refine uk a'.defers s' w' n'.jd n'.mM λw2 AH=>?_;obtain⟨v,Ka,hV2⟩:=GH (P:=P) n'.jd AH.cell n'.bX hx;have nZ:=n'.jd;refine⟨v,Ka,v,G',x,s2,rfl,hV2,⟨?_,?_,?_,?_,?_,?_⟩,⟨x'.le,AH.os.trans x'.os,AH.tape.trans x'.tape,AH.output.trans x'.output,by rw[AH.size];exact x'.size,?_,x'.jJ,x'.jj,?_,xz x'.cr hl.2,?_,x'.stay,by rw[AH.drawn];exact x'.drawn⟩,hk⟩
  ·refine⟨λb o u hi=>?_,nZ.kS.2⟩;rw[AH.cell];exact nZ.ir b o u hi
  ·intro id b hg;obtain⟨kN,eU⟩:=hl.1 id b hg;rcases nZ.heap id b kN with⟨r,o,e1,e2,e3⟩|e
   case inr=>exact .inr e
   refine .inl ⟨r,o,e1,?_,e3⟩;rcases AH.heap r.block with e|⟨⟨y,q1⟩,_,_⟩
   ·rw[e];exact e2
   ·rw[e2]at q1;cases q1;cases e3;exact absurd rfl eU
  ·intro id fL b b' r r' h1 h2;exact nZ.apart id fL b b' r r' (hl.1 _ _ h1).1 (hl.1 _ _ h2).1
  ·intro id b r o hg;exact nZ.clear id b r o (hl.1 _ _ hg).1
  ·intro id hid;exact nZ.cE id (xz hl.2 hid)
  ·intro id b hg;exact Sr (nZ.lt id b (hl.1 id b hg).1) hl.2
  ·intro b hb jT;rcases AH.heap b with e|⟨_,_,id,r,q1,q2,q3⟩
   ·rw[e];exact x'.keep b hb jT
   ·exfalso;rcases x'.jj id r q2 with h|h|h
    ·rcases x'.ids id _ q1 with⟨b0,D7⟩|JS
     ·exact jT ⟨id,b0,r,D7,h,q3⟩
     ·rw[hs.cE id JS]at h;cases h
    ·omega
    ·rw[q3]at h;exact jT h
  ·intro id b hg;exact x'.ids id b (hl.1 _ _ hg).1
  ·intro id hid;exact absurd hid (aah id)
 cases e with
 |normal=>exact fin q'
 |ret=>exact fin q'
 |exit id=>exact q'.elim
 |goto l=>exact q'.elim
 |panic ch=>exact q'.elim
 |outgrown=>exact q'.elim
end
end Go.Am
end
section
namespace Go.Am
open Go.RowKit
mutual
def AV.dI:AV->Bool
 |.mp _ _ _=>false
 |.ms _ _ _=>false
 |.mc _ _ _ _=>false
 |.lf _=>false
 |.sl _ l=>fj l
 |.agg l=>fj l
 |.eC l=>fj l
 |.fn _ l=>fj l
 |.ip l=>fj l
 |_=>true
def fj:List AV->Bool
 | []=>true
 |x::r=>x.dI&&fj r
end
theorem eJ{l:List AV}:fj l=true↔ ∀x∈l,x.dI=true:=by
 induction l with
 |nil=>simp[fj]
 |cons x r ih=>simp[fj,ih]
theorem lV{x:AV}(h:x.dI=true): ∀y∈x.cells,y.dI=true:=by
 intro y hy;cases x<;>simp only[AV.cells,O5]at hy<;>first
  |(subst hy;exact h)
  |(simp only[AV.dI]at h;exact eJ.1 h y hy)
theorem V.dI{G G':cx}(hi: ∀b o v,G.ir b o=some v->G'.ir b o=some v){x:AV}{v:Value}(h:V G x v):x.dI=true->V G' x v:=by
 induction h with
 |any v=>exactλ_=>.any v
 |bool b=>exactλ_=>.bool b
 |int k n=>exactλ_=>.int k n
 |str s=>exactλ_=>.str s
 |iO=>exactλ_=>.iO
 |nG=>exactλ_=>.nG
 |slnil full cn cap hf hb=>exactλ_=>.slnil full cn cap hf hb
 |sl full elems b off cN cap val ko kc eE jH iw _ ih=>
  intro hc;refine .sl full elems b off cN cap val ko kc eE jH (λk hk=>hi _ _ _ (iw k hk)) λk x hx=>ih k x hx ?_;have hm:=gT hx;rw[dB,tK]at hm;obtain⟨y,hy,s7⟩:=hm;simp only[AV.dI]at hc;exact lV (eJ.1 hc y hy) x s7
 |ip cells b off val iw _ ih=>
  intro hc;simp only[AV.dI]at hc;exact .ip cells b off val (λk hk=>hi _ _ _ (iw k hk)) λk x hx=>ih k x hx (eJ.1 hc x (gT hx))
 |mp id el off r h=>intro hc;cases hc
 |ms id b9 len cap r addr h eP fB ha=>intro hc;cases hc
 |ia id b9 cap cn h=>intro hc;cases hc
 |mc id b9 len cap r addr h eP fB ha=>intro hc;cases hc
 |nI id b9 cn=>intro hc;cases hc
 |fn f gk vs dJ _ ih=>
  intro hc;simp only[AV.dI]at hc;exact .fn f gk vs dJ λi x y hx hy=>ih i x y hx hy (eJ.1 hc x (gT hx))
 |lf id r h=>intro hc;cases hc
 |agg cs vs dJ _ ih=>
  intro hc;simp only[AV.dI]at hc;exact .agg cs vs dJ λi x y hx hy=>ih i x y hx hy (eJ.1 hc x (gT hx))
 |eC cs vs dJ _ ih=>
  intro hc;simp only[AV.dI]at hc;exact .eC cs vs dJ λi x y hx hy=>ih i x y hx hy (eJ.1 hc x (gT hx))
section
variable {P:Program} {G:cx} {s:St} {w:World}
def St.nil:St:=⟨[],0⟩
def kU(P:Program)(f:FuncId)(args:List AV)(x:AV):Prop:= ∀s,dQ P f args s λy s'=>y=x/\s'=s
theorem Rl{f:FuncId}{args:List AV}{x:AV}(ha:fj args=true)(hx:x.dI=true)(h:dQ P f args St.nil λy _=>y=x):kU P f args x:=λs G w vs hs hv=>by
 let G0:cx:={ir:=G.ir,own:=λ_=>none};have Rm:eQ G0 St.nil w:=⟨hs.kS,λid b hg=>by simp[St.nil,di,cZ]at hg,λid _ b _ _ _ hg=>by simp[St.nil,di,cZ]at hg,λid b _ _ hg=>by simp[St.nil,di,cZ]at hg,λ_ _=>rfl,λid b hg=>by simp[St.nil,di,cZ]at hg⟩;have hv0:VL G0 args vs:=⟨hv.1,λi p q hp hq=>V.dI (G:=G) (G':=G0) (λb o u(h:G.ir b o=some u)=>(h:G0.ir b o=some u)) (hv.2 i p q hp hq) (eJ.1 ha p (gT hp))⟩;refine(h G0 w vs Rm hv0).mono ?_;rintro e w' ⟨v,G',y,s',rfl,hV,hS,hE,rfl⟩;let G1:cx:={ir:=G'.ir,own:=G.own};have eP:sJ G G1:=⟨λb o v hi=>hE.le.ir b o v hi,λ_ _ h=>h⟩;have YB: ∀b,¬mE G0 St.nil b:=λb ⟨id,blk,r,hg,_⟩=>by simp[St.nil,di,cZ]at hg
 refine⟨v,G1,y,s,rfl,V.dI (G:=G') (G':=G1) (λb o u(h:G'.ir b o=some u)=>(h:G1.ir b o=some u)) hV hx,⟨hS.kS,λid b hg=>?_,hs.apart,λid b r o hg ho=>?_,hs.cE,hs.lt⟩,
  ⟨eP,hE.os,hE.tape,hE.output,hE.size,λb hb _=>hE.keep b hb (YB b),λb o v hi=>?_,λ_ _ h=>.inl h,λid b hg=>.inl ⟨b,hg⟩,eD _,λ_ h=>h,λ_ _ h=>h,hE.drawn⟩,rfl,rfl⟩
 ·rcases hs.heap id b hg with⟨r,o,e1,e2,e3⟩|e
  ·exact .inl ⟨r,o,e1,by rw[hE.keep _ (hs.jy hg e1) (YB _)];exact e2,e3.mono eP⟩
  ·exact .inr e
 ·cases hi:G1.ir r.block o with
  |none=>rfl
  |some u=>
   rcases hE.jJ _ _ _ hi with h|h|h
   ·rw[show G.ir r.block o=none from hs.clear id b r o hg ho]at h;cases h
   ·have:=hs.jy hg ho;omega
   ·exact absurd h (YB _)
 ·rcases hE.jJ _ _ _ hi with h|h|h
  ·exact .inl h
  ·exact .inr (.inl h)
  ·exact absurd h (YB _)
def sD(s:St)(x:AV)(s':St)(x':AV):Prop:= ∀G w v,eQ G s w->V G x v-> ∃G',eQ G' s' w/\Ext G s w G' s' w/\V G' x' v
theorem dQ.turn{f:FuncId}{args:List AV}{Q:AV->St->Prop}(h:dQ P f args s λx s'=> ∃s2 x2,sD s' x s2 x2/\Q x2 s2):dQ P f args s Q:=λG w vs hs hv=>by
 refine(h G w vs hs hv).mono ?_;rintro e w' ⟨v,G',x,s',rfl,hV,hS,hE,s2,x2,ht,hq⟩;obtain⟨G2,h1,h2,h3⟩:=ht G' w' v hS hV;exact⟨v,G2,x2,s2,rfl,h3,h1,hE.trans hs h2,hq⟩
theorem sD.refl(s:St)(x:AV):sD s x s x:=λG w v hs hv=>⟨G,hs,.refl _ _ _,hv⟩
theorem kz(hs:eQ G s w){id b9 len cN:Nat}{elems:List AV}(hg:bJ s.heap id=some (.cells cN elems))(hl:b9+len<=elems.length):
  ∃G',eQ G' ⟨eN s.heap id,s.cr⟩ w/\Ext G s w G' ⟨eN s.heap id,s.cr⟩ w/\(∀b9 len v,b9+len<=elems.length->V G (.ms id b9 len) v->V G' (.sl false ((elems.drop b9).take len)) v)/\ ∀e v,elems=[e]->V G (.mp id 0 0) v->V G' (.ip e.cells) v:=by
 rcases hs.heap id _ hg with⟨r,o,e1,e2,e3⟩|⟨e1,sz,_,e2⟩
 case inr=>
  cases e2;have hd: ∀i b,bJ (eN s.heap id) i=some b->bJ s.heap i=some b:=λi b hi=>by
   rw[fU]at hi;split at hi
   ·cases hi
   ·exact hi
  refine⟨G,hs.drop hd (eD _),Ext.drop hd (eD _) λi hi=>?_,λb9 len v hl hv=>?_,λe v he _=>by cases he⟩
  ·rw[fU,dY (λe=>by subst e;rw[hg]at hi;cases hi)];exact hi
  ·cases hv with
   |ms _ _ _ cap r' addr ho eP PI gY=>rw[e1]at ho;cases ho
   |ia _ _ cap cn hc=>
    simp only[Re];exact .slnil _ _ _ (λe=>by cases e) (λ_=>hc)
 cases e3 with
 |cells _ _ cs ty s8 eE h0 ja jH fB hV=>
  subst eE;obtain⟨q1,q2⟩:=hs.freeze hg e1 e2;refine⟨_,q1,q2,λb9 len v hl hv=>?_,λe v he hv=>?_⟩
  case refine_2=>
   subst he;cases hv with
   |mp _ _ _ r' ho=>
    rw[e1]at ho;cases ho;have hc:=ja e (by simp);have fB:r.cn+r.cN<=cs.size:=by simpa[s8]using fB
    refine .ip e.cells r.block (r.cn+0*r.cN+0) (λk=>cs.getD (r.cn+k) undef) (λk hk=>?_) λk x hx=>?_
    ·have gl:r.cn+k<cs.size:=by omega
     simp[cx.gM,gl]
    ·obtain⟨u,p1,p2⟩:=hV k x (by simpa[dB]using hx);rw[wx,p1];exact p2.mono q2.le
  cases hv with
  |ia _ _ cap cn hc=>
   simp only[Re];exact .slnil _ _ _ (λe=>by cases e) (λ_=>hc)
  |ms _ _ _ cap r' addr ho eP PI gY=>
   rw[e1]at ho;cases ho;have dJ:((elems.drop b9).take len).length=len:=by simp;omega
   have kM: ∀y∈(elems.drop b9).take len,y∈elems:=λy hy=>D4 (xA hy);by_cases hn:len=0
   ·subst hn;simp only[Re];exact .slnil _ _ _ (λe=>by cases e) (λe=>by cases e)
   ·rw[gY (by omega)];have key:=V.sl (G:=G.gM r.block cs) false ((elems.drop b9).take len) r.block (r.cn+b9*r.cN) r.cN cap (λk=>cs.getD (r.cn+b9*r.cN+k) undef) (by omega) (by simp)
     (λy hy=>ja y (kM y hy)) (λy hy=>jH y (by
      rw[dB,tK]at hy |-
      obtain⟨z,hz,hy⟩:=hy;exact⟨z,kM z hz,hy⟩)) (λk hk=>by
      rw[dJ]at hk;have h1:(b9+len)*r.cN<=elems.length*r.cN:=AM _ hl;rw[vm]at h1;have gl:r.cn+b9*r.cN+k<cs.size:=by omega
      simp[cx.gM,gl]) (λk y hy=>by
      have hk:=iP (n:=b9+len) (l:=b9) ja h0 (k:=k) (x:=y) (by
       rw[show(elems.take (b9+len)).drop b9=(elems.drop b9).take len from by rw[List.drop_take];congr 1;omega];exact hy)
      obtain⟨u,p1,p2⟩:=hV _ y hk;rw[wx,DP,p1];exact p2.mono q2.le)
    rw[dJ]at key;exact key
def qC:AV->St->AV×St
 |.ms id b9 len,s=>match bJ s.heap id with
  |some (.cells _ elems)=>if b9+len<=elems.length then(.sl false ((elems.drop b9).take len),⟨eN s.heap id,s.cr⟩)else(.ms id b9 len,s)
  |_=>(.ms id b9 len,s)
 |x,s=>(x,s)
def lW(f:AV->St->AV×St):List AV->St->List AV×St
 | [],s=>([],s)
 |x::r,s=>((f x s).1::(lW f r (f x s).2).1,(lW f r (f x s).2).2)
def ul:AV->St->AV×St
 |.agg l,s=>(.agg (lW qC l s).1,(lW qC l s).2)
 |x,s=>qC x s
def PN:AV->St->AV×St
 |.eC l,s=>(.eC (lW ul l s).1,(lW ul l s).2)
 |x,s=>ul x s
theorem vF(s:St)(x:AV):sD s x (qC x s).2 (qC x s).1:=by
 unfold qC;split
 ·rename_i id b9 len;split
  ·rename_i cN elems hg;split
   ·rename_i hl;intro G w v hs hv;obtain⟨G',h1,h2,h3,_⟩:=kz hs hg hl;exact⟨G',h1,h2,h3 _ _ v hl hv⟩
   ·exact .refl _ _
  ·exact .refl _ _
 ·exact .refl _ _
theorem rE{f:AV->St->AV×St}(hf: ∀s x,sD s x (f x s).2 (f x s).1): ∀(l:List AV)(s:St)(G:cx)(w:World)(vs:List Value),eQ G s w->l.length=vs.length->
  (∀(i:Nat)x y,l[i]? =some x->vs[i]? =some y->V G x y)-> ∃G',eQ G' (lW f l s).2 w/\Ext G s w G' (lW f l s).2 w/\(lW f l s).1.length=vs.length/\
   ∀(i:Nat)x y,(lW f l s).1[i]? =some x->vs[i]? =some y->V G' x y
 | [],s,G,w,vs,hs,hl,hV=>⟨G,hs,.refl _ _ _,hl,by simp[lW]⟩
 |x::r,s,G,w,vs,hs,hl,hV=>by
  cases vs with
  |nil=>simp at hl
  |cons v vs=>
   obtain⟨G1,a1,a2,a3⟩:=hf s x G w v hs (hV 0 x v rfl rfl);obtain⟨G2,b1,b2,b3,b4⟩:=rE hf r _ G1 w vs a1 (by simpa using hl) λi p q hp hq=>(hV (i+1) p q (by simpa using hp) (by simpa using hq)).mono a2.le;refine⟨G2,b1,a2.trans hs b2,by simpa[lW]using b3,λi p q hp hq=>?_⟩;cases i with
   |zero=>simp[lW]at hp hq;subst hp;subst hq;exact a3.mono b2.le
   |succ i=>exact b4 i p q (by simpa[lW]using hp) (by simpa using hq)
theorem Bw(s:St)(x:AV):sD s x (ul x s).2 (ul x s).1:=by
 unfold ul;split
 ·rename_i l;intro G w v hs hv;cases hv with
  |agg _ vs dJ hh=>
   obtain⟨G',a,b,c,d⟩:=rE vF l s G w vs.toList hs (by simpa using dJ) λi p q hp hq=>hh i p q hp (by simpa using hq);exact⟨G',a,b,.agg _ vs (by simpa using c) λi p q hp hq=>d i p q hp (by simpa using hq)⟩
 ·exact vF s _
theorem El(s:St)(x:AV):sD s x (PN x s).2 (PN x s).1:=by
 unfold PN;split
 ·rename_i l;intro G w v hs hv;cases hv with
  |eC _ vs dJ hh=>
   obtain⟨G',a,b,c,d⟩:=rE Bw l s G w vs.toList hs (by simpa using dJ) λi p q hp hq=>hh i p q hp (by simpa using hq);exact⟨G',a,b,.eC _ vs (by simpa using c) λi p q hp hq=>d i p q hp (by simpa using hq)⟩
 ·exact Bw s _
end
end Go.Am
end
section
namespace Go.Am
open Go.RowKit
structure Ins where
 dst:Option Nat
 op:Op
 guard:Option (Nat×Bool)
def mF(ops:List Oper)(o:Oper):Ins:=⟨o.dst,o.op,match o.guard with
 |none=>none
 |some (j,want)=>match(ops[j]?).bind (·.dst)with
  |some d=>some (d,want)
  |none=>some (0,want)⟩
def ins(ops:List Oper):List Ins:=ops.map (mF ops)
def oN(ops:List Oper):Bool:=ops.all λo=>match o.guard with
 |none=>true
 |some (j,_)=>((ops[j]?).bind (·.dst)).isSome
def qD(N:Nat)(ops:List Oper):Bool:=ops.all λo=>ng N o.dst
def Gg(g:Option (Nat×Bool))(bX:Env)(A B:Prop):Prop:=match g with
 |none=>A
 |some (d,want)=>match bJ bX d with
  |some (.bool b)=>(b=want->A)/\(b=!want->B)
  |some (.eC [])=>B
  |_=>False
def ows(P:Program)(op:Op)(K:AV->St->Prop)(bX:Env)(s:St):Prop:=
 match gx op with
 |some (f,args)=>match oper bX f,opers bX args with
  |some (.fn g gk),some l=>enters P g=true/\dQ P g (l++gk) s K
  |some (.lf id),some l=>jk P id l s K
  |_,_=>False
 |none=>match jc P op bX s with
  |some (v,s')=>K v s'
  |none=>False
section
variable {P:Program} {N:Nat} {ρ:Option Nat} {Q:Exit->Env->St->Prop} {bX:Env} {s:St}
def AX:List Nat->List AV->Env
 |k::r,x::l=>(k,x)::AX r l
 |_,_=>[]
structure LeS (s' s:St):Prop where
 heap: ∀id b,bJ s'.heap id=some b->bJ s.heap id=some b
 cr:s.cr<=s'.cr
 gK: ∀id,bJ s.heap id=some .gK->bJ s'.heap id=some .gK
theorem LeS.refl(s:St):LeS s s:=⟨λ_ _ h=>h,eD _,λ_ h=>h⟩
end
end Go.Am
end
section
namespace Go.Am
open Go.RowKit
inductive Step where
 |iQ (i:Nat) (note:Bool)
 |iI (i:Nat) (xk:List Nat)
 |alloc (i:Nat)
 deriving DecidableEq
def Step.idx:Step->Nat
 |.iQ i _=>i
 |.iI i _=>i
 |.alloc i=>i
def Step.waits:Step->Bool
 |.iQ _ _=>false
 |_=>true
def Step.Iv:Step->Bool
 |.alloc _=>true
 |_=>false
def gu:Op->Bool
 |.move _|.assign _|.pick _ _ _|.build _ _|.buildSlice _ _ _|.load _ _|.nilCheck _|.binOp _ _ _ _ _|.unOp _ _ _|.convert _ _ _|.makeFunc _ _ _|.slice _ _ _ _ _
 |.fieldAddr _ _ _|.field _ _ _|.indexAddr _ _ _|.index _ _ _|.extract _ _=>true
 |.call ⟨.builtin .len,_,_⟩|.call ⟨.builtin .min,_,_⟩|.call ⟨.builtin .max,_,_⟩=>true
 |_=>false
def kA:Op->Bool
 |.move _|.assign _|.pick _ _ _|.build _ _|.buildSlice _ _ _|.nilCheck _|.binOp _ _ _ _ _|.unOp _ _ _|.convert _ _ _|.makeFunc _ _ _
 |.fieldAddr _ _ _|.field _ _ _|.index _ _ _|.extract _ _=>true
 |.call ⟨.builtin .len,_,_⟩|.call ⟨.builtin .min,_,_⟩|.call ⟨.builtin .max,_,_⟩=>true
 |_=>false
theorem pL{P:Program}{op:Op}{bX:Env}{s s':St}{x:AV}(hl:gu op=true)(h:jc P op bX s=some (x,s')):s'=s:=by
 cases op<;>simp only[gu]at hl<;>first|(cases hl;done)|skip
 case call c=>
  obtain⟨callee,args,ts⟩:=c;cases callee with
  |value f=>cases hl
  |invoke r m=>cases hl
  |builtin b=>
   cases b<;>simp only[]at hl<;>first|(cases hl;done)|skip
   all_goals
    simp only[jc]at h;split at h<;>first|exact(dS h).2|cases h
 case makeFunc fn first gk=>
  cases fn<;>simp only[jc]at h<;>first|(cases h;done)|skip
  split at h
  ·split at h
   ·cases h;rfl
   ·cases h
  ·cases h
 all_goals
  simp only[jc]at h
  first
   |exact(dS h).2
   |(repeat' split at h)<;>first|exact(dS h).2|(cases h;done)|(cases h;rfl)
theorem nk{P:Program}{op:Op}{bX:Env}{s s2:St}{x:AV}(hl:kA op=true)(h:jc P op bX s=some (x,s)):jc P op bX s2=some (x,s2):=by
 have k: ∀{v:Option AV},gE v s=some (x,s)->gE v s2=some (x,s2):=λh=>by rw[(dS h).1];rfl
 cases op<;>simp only[kA]at hl<;>first|(cases hl;done)|skip
 case call c=>
  obtain⟨callee,args,ts⟩:=c;cases callee with
  |value f=>cases hl
  |invoke r m=>cases hl
  |builtin b=>
   cases b<;>simp only[]at hl<;>first|(cases hl;done)|skip
   all_goals
    simp only[jc]at h |-
    split at h<;>first|exact k h|cases h
 case makeFunc fn first gk=>
  cases fn<;>simp only[jc]at h |- <;>first|(cases h;done)|skip
  split at h
  ·rename_i h0;rw[dP h0];split at h
   ·rename_i l hl;cases h;simp only[hl]
   ·cases h
  ·cases h
 case pick c a b=>
  simp only[jc]at h |-
  split at h
  ·rename_i t ht;cases t
   ·simp only[ZJ,if_false]at h |-;exact k h
   ·simp only[wz]at h |-;exact k h
  ·cases h
 all_goals
  simp only[jc]at h |-
  first
   |exact k h
   |(split at h<;>first|exact k h|(cases h;rfl)|(cases h;done)|(split at h<;>first|exact k h|(cases h;rfl)|(cases h;done)|(split at h<;>first|exact k h|(cases h;rfl)|(cases h;done))))
def Rn:Operand->List Nat
 |.tmp t=>[t]
 |_=>[]
def iR(o:Oper):List Nat:=o.op.operands.toList.flatMap Rn
def je(ts:List Nat)(bX:Env):Env:=ts.filterMap λt=>(bJ bX t).map λx=>(t,x)
theorem Bx{ts:List Nat}{bX:Env}{t:Nat}{x:AV}(h:bJ (je ts bX) t=some x):t∈ts/\bJ bX t=some x:=by
 induction ts with
 |nil=>simp[je,di,cZ]at h
 |cons k r ih=>
  simp only[je,List.filterMap_cons]at h;cases hk:bJ bX k with
  |none=>
   simp only[hk,Su]at h;obtain⟨a,b⟩:=ih h;exact⟨by simp[a],b⟩
  |some y=>
   simp only[hk,gX,di,cZ]at h;split at h
   ·rename_i e;subst e;cases h;exact⟨by simp,hk⟩
   ·obtain⟨a,b⟩:=ih h;exact⟨by simp[a],b⟩
def wI(l:List Oper)(o:Oper):List Nat:=match o.guard with
 |none=>[]
 |some (j,_)=>match(l[j]?).bind (·.dst)with
  |some d=>[d]
  |none=>[]
def qE:List (Nat×Env×AV)->Nat->Option (Env×AV)
 | [],_=>none
 |(k,e,v)::r,i=>if k=i then some (e,v)else qE r i
def tc(P:Program)(l:List Oper)(tr:List (Nat×Env×AV))(s:St):List Nat->Prop
 | []=>True
 |j::r=>(match qE tr j,l[j]? with
  |some (e,v),some o=>jc P o.op e s=some (v,s)
  |_,_=>True)/\tc P l tr s r
theorem yF{P:Program}{l:List Oper}{tr:List (Nat×Env×AV)}{s:St}{e:Env}{v:AV}{o:Oper}: ∀{c:List Nat},tc P l tr s c-> ∀j∈c,qE tr j=some (e,v)->l[j]? =some o->jc P o.op e s=some (v,s)
 | [],_,j,hj,_,_=>by cases hj
 |k::r,⟨h1,h2⟩,j,hj,hf,hl=>by
  rcases mZ.1 hj with rfl|hj
  ·simp only[hf,hl]at h1;exact h1
  ·exact yF h2 j hj hf hl
def YC(l:List Oper)(o:Oper)(bX:Env)(A:Prop)(B:Prop):Prop:=Gg (mF l o).guard bX A B
def AJ(P:Program)(l:List Oper)(K:Env->St->Prop):List Step->List (Nat×Env×AV)->Env->St->Prop
 | [],_,bX,s=>K bX s
 |.iQ i note::r,tr,bX,s=>match l[i]? with
  |some o=>YC l o bX (match jc P o.op (je (iR o) bX) s with
    |some (v,_)=>AJ P l K r (if note then(i,je (iR o) bX,v)::tr else tr) (fQ o.dst v bX) s
    |none=>False) (AJ P l K r tr (fQ o.dst (.eC []) bX) s)
  |none=>False
 |.iI i xk::r,tr,bX,s=>match l[i]? with
  |some o=>YC l o bX (ows P o.op (λv s'=>tc P l tr s' xk/\AJ P l K r tr (fQ o.dst v bX) s') (je (iR o) bX) s) (AJ P l K r tr (fQ o.dst (.eC []) bX) s)
  |none=>False
 |.alloc i::r,tr,bX,s=>match l[i]? with
  |some o=>match jc P o.op [] s with
   |some (v,s')=>AJ P l K r tr (fQ o.dst v bX) s'
   |none=>False
  |none=>False
def direct(o:Oper):List Nat:=(o.after.toList.filter (Region.binds .any)).map (·.on)
def iS(pre:List (List Nat))(i:Nat):List Nat:=pre.getD i []
def iT(l:List Oper)(i:Nat):Option Nat:=(l[i]?).bind (·.dst)
structure il (X:Nat->Nat->Prop) (P:Program) (N:Nat) (l:List Oper) (pre:List (List Nat)) (cu:List Step):Prop where
 L8: ∀i∈List.range l.length,∀o∈l[i]?,(∀p∈direct o,p<i)/\ ∀p∈iS pre i,p<i/\(p∈direct o\/ ∃d∈direct o,p∈iS pre d)
 Wt: ∀i∈List.range l.length,∀j∈List.range l.length,∀t∈iT l i,iT l j=some t->i=j
 Kb:qD N l=true
 grd:oN l=true
 reads: ∀i∈List.range l.length,∀o∈l[i]?,∀t∈iR o++wI l o,(∃u∈iS pre i,iT l u=some t)\/(∀u∈List.range l.length,iT l u=some t->i∈iS pre u)
 perm:(∀st∈cu,st.idx<l.length)/\(∀i∈List.range l.length,i∈cu.map Step.idx)/\(cu.map Step.idx).Nodup
 L9: ∀k∈List.range cu.length,∀st∈cu[k]?,∀p∈iS pre st.idx,p∈(cu.take k).map Step.idx
 waits: ∀k∈List.range cu.length,∀st∈cu[k]?,st.waits=true-> ∀st2∈cu.drop (k+1),st2.Iv=true\/st.idx∈iS pre st2.idx\/X st.idx st2.idx
 kinds: ∀st∈cu,∀o∈l[st.idx]?,match st with
  |.iQ _ _=>gu o.op=true
  |.iI _ _=>True
  |.alloc _=>(match o.op with|.alloc t=>(wB P t).isSome=true|_=>False)/\o.guard=none/\o.dst.isSome=true
 Ma: ∀k∈List.range cu.length,∀st∈cu[k]?,match st with
  |.iI h xk=> ∀st2∈cu.take k,match st2 with
   |.iQ j note=> ∀o∈l[j]?,kA o.op=true\/j∈iS pre h\/(note=true/\j∈xk)
   |_=>True
  |_=>True
abbrev Mb(P:Program)(N:Nat)(l:List Oper)(pre:List (List Nat))(cu:List Step):Prop:=il (λ_ _=>False) P N l pre cu
end Go.Am
end
section
namespace Go.Am
open Go.RowKit
section
variable {X:Nat->Nat->Prop} {P:Program} {N:Nat} {ρ:Option Nat} {l:List Oper} {pre:List (List Nat)} {cu:List Step} {K:Env->St->Prop} {iD:Env} {G0:cx} {s0:St} {w0:World}
def jM(ds:List Step):List Nat:=ds.map Step.idx
def Rd(l:List Oper)(pre:List (List Nat))(bX iD:Env)(i t:Nat)(x:AV):Prop:=
 (∃u,u∈iS pre i/\iT l u=some t/\bJ bX t=some x)\/((∀u,u<l.length->iT l u=some t->i∈iS pre u)/\bJ iD t=some x)
def GJ:AV->Bool->Option Bool
 |.bool c,want=>some (c==want)
 |.eC [],_=>some false
 |_,_=>none
def Gh(l:List Oper)(pre:List (List Nat))(bX iD:Env)(i:Nat)(o:Oper)(b:Bool):Prop:=match o.guard with
 |none=>b=true
 |some (j,want)=> ∃d x,iT l j=some d/\Rd l pre bX iD i d x/\GJ x want=some b
def Wu(P:Program)(l:List Oper)(pre:List (List Nat))(cu:List Step)(bX iD:Env)(tr:List (Nat×Env×AV))(s:St)(i:Nat):Prop:=
 ∃o,l[i]? =some o/\gu o.op=true/\
  ((Gh l pre bX iD i o true/\ ∃e v,(∀t x,bJ e t=some x->Rd l pre bX iD i t x)/\jc P o.op e s=some (v,s)/\(∀t,o.dst=some t->bJ bX t=some v)/\
    ((∃st∈cu,st=.iQ i true)->qE tr i=some (e,v)))\/
   (Gh l pre bX iD i o false/\ ∀t,o.dst=some t->bJ bX t=some (.eC [])))
def Iw(P:Program)(l:List Oper)(G:cx)(s:St)(w0 w:World)(tmps:Array Value)(i:Nat):Prop:=
 ∃o t ty z b cs e,l[i]? =some o/\o.op=.alloc ty/\o.dst=some t/\wB P ty=some z/\tmps[t]? =some (.pointer (some ⟨b,0,none⟩))/\w.heap[b]? =some (.cells cs e (0,0))/\
  VL G z.cells cs/\ ¬mE G s b/\(∀j,G.ir b j=none)/\w0.heap.size<=b
structure qj (P:Program) (N:Nat) (ρ:Option Nat) (l:List Oper) (pre:List (List Nat)) (cu:List Step) (K:Env->St->Prop) (iD:Env) (G0:cx) (s0:St) (w0:World)
  (E:Nat->Prop) (ds σ:List Step) (tr:List (Nat×Env×AV)) (bX:Env) (s:St) (a:Act) (w:World) (G:cx):Prop where
 split:cu=ds++σ
 run:AJ P l K σ tr bX s
 jd:eQ G s w
 ext:Ext G0 s0 w0 G s w
 size:a.tmps.size=N
 mM:pE G s a.defers
 known:wD G ρ
 lt: ∀i,E i->i<l.length
 closed: ∀i,E i-> ∀p∈iS pre i,E p
 sub: ∀i,E i->i∈jM ds\/(.alloc i∈σ/\Iw P l G s w0 w a.tmps i)
 wait: ∀st∈ds,st.waits=true->E st.idx
 s1: ∀t x,bJ iD t=some x->(∀i,E i->iT l i≠some t)->t<N/\V G x (a.tmps.getD t undef)
 s2: ∀i,E i->i∈jM ds-> ∀t,iT l i=some t-> ∀x,bJ bX t=some x->V G x (a.tmps.getD t undef)
 e0: ∀t,(∀i∈jM ds,iT l i≠some t)->bJ bX t=bJ iD t
 Kc: ∀i∈jM ds,¬E i->Wu P l pre cu bX iD tr s i
 Em: ∀i j,E i->E j->.alloc i∈σ->.alloc j∈σ->i≠j-> ∀ti tj,iT l i=some ti->iT l j=some tj->a.tmps[ti]?≠a.tmps[tj]?
theorem kB{ds σ:List Step}(hp:il X P N l pre cu)(h:cu=ds++σ){st:Step}(hm:st∈σ):st.idx ∉ jM ds:=by
 have:=hp.perm.2.2;rw[h,Cf,List.nodup_append]at this;exactλhi=>this.2.2 st.idx hi st.idx (kl.2 ⟨st,hm,rfl⟩) rfl
theorem ib(hp:il X P N l pre cu){i j t:Nat}(hi:iT l i=some t)(hj:iT l j=some t):i=j:=by
 have lt: ∀{i},iT l i=some t->i<l.length:=λ{i}h=>by
  unfold iT at h;cases hl:l[i]? with
  |none=>simp[hl]at h
  |some o=>exact(fT.1 hl).1
 exact hp.Wt i (Cg.2 (lt hi)) j (Cg.2 (lt hj)) t hi hj
theorem GK{i t:Nat}(h:iT l i=some t):i<l.length:=by
 unfold iT at h;cases hl:l[i]? with
 |none=>simp[hl]at h
 |some o=>exact(fT.1 hl).1
theorem gW{i:Nat}{o:Oper}(h:l[i]? =some o):iT l i=o.dst:=by simp[iT,h]
theorem qF(hp:il X P N l pre cu){ds σ:List Step}{st:Step}(h:cu=ds++st::σ): ∀p∈iS pre st.idx,p∈jM ds:=by
 intro p oH;have hk:cu[ds.length]? =some st:=by rw[h];simp
 have:=hp.L9 ds.length (by rw[Cg,h];simp) st hk p oH;rw[h]at this;simpa[jM]using this
theorem kV(hp:il X P N l pre cu){ds σ:List Step}(h:cu=ds++σ){i:Nat}(hi:i∈jM ds): ∀p∈iS pre i,p∈jM ds:=by
 intro p oH;obtain⟨st,iA,rfl⟩:=kl.1 hi;obtain⟨d1,d2,rfl⟩:=List.append_of_mem iA;have:=qF hp (ds:=d1) (σ:=d2++σ) (by rw[h];simp) p oH;simp only[jM,Cf,lT];exact .inl this
theorem Cz(hp:il X P N l pre cu){E:Nat->Prop}{ds σ:List Step}{tr:List (Nat×Env×AV)}{bX:Env}{s:St}{a:Act}{w:World}{G:cx}
  (h:qj P N ρ l pre cu K iD G0 s0 w0 E ds σ tr bX s a w G) {i t:Nat} {x:AV} (hr:Rd l pre bX iD i t x) (kO: ∀p∈iS pre i,E p) (hd: ∀p∈iS pre i,p∈jM ds) (rG: ¬E i):
  t<N/\V G x (a.tmps.getD t undef):=by
 rcases hr with⟨u,hu,Mc,hx⟩|⟨jz,hx⟩
 ·refine⟨?_,h.s2 u (kO u hu) (hd u hu) t Mc x hx⟩;have hl:=GK Mc;have:=hp.Kb;simp only[qD,pA]at this;obtain⟨o,ho⟩: ∃o,l[u]? =some o:=⟨_,dR hl⟩;have h2:=this o (gT ho);rw[gW ho]at Mc;rw[Mc]at h2;simpa[ng]using h2
 ·refine h.s1 t x hx λj hj Vm=>?_;exact rG (h.closed j hj i (jz j (h.lt j hj) Vm))
theorem Bz(hp:il X P N l pre cu){E:Nat->Prop}{ds σ:List Step}{tr:List (Nat×Env×AV)}{bX:Env}{s:St}{a:Act}{w:World}{G:cx}
  (h:qj P N ρ l pre cu K iD G0 s0 w0 E ds σ tr bX s a w G) {i t:Nat} {x:AV} {o:Oper} (ho:l[i]? =some o) (ht:t∈iR o++wI l o) (hx:bJ bX t=some x) (rG:i ∉ jM ds):Rd l pre bX iD i t x:=by
 have vo:=(fT.1 ho).1;rcases hp.reads i (Cg.2 vo) o ho t ht with⟨u,hu,Mc⟩|jz
 ·exact .inl ⟨u,hu,Mc,hx⟩
 ·refine .inr ⟨λu hu Mc=>jz u (Cg.2 hu) Mc,?_⟩;rw[<-h.e0 t λj hj Vm=>?_]
  ·exact hx
  ·exact rG (kV hp h.split hj i (jz j (Cg.2 (GK Vm)) Vm))
theorem Rd.put(hp:il X P N l pre cu){ds:List Step}{bX env':Env}{i j t:Nat}{x:AV}(eU: ∀t,iT l i≠some t->bJ env' t=bJ bX t)(hj: ∀p∈iS pre j,p∈jM ds)(hi:i ∉ jM ds)
  (h:Rd l pre bX iD j t x):Rd l pre env' iD j t x:=by
 rcases h with⟨u,hu,Mc,hx⟩|h
 ·refine .inl ⟨u,hu,Mc,?_⟩;rw[eU t λhit=>hi (by rw[ib hp hit Mc];exact hj u hu)];exact hx
 ·exact .inr h
theorem Gh.put(hp:il X P N l pre cu){ds:List Step}{bX env':Env}{i j:Nat}{o:Oper}{b:Bool}(eU: ∀t,iT l i≠some t->bJ env' t=bJ bX t)(hj: ∀p∈iS pre j,p∈jM ds)(hi:i ∉ jM ds)
  (h:Gh l pre bX iD j o b):Gh l pre env' iD j o b:=by
 unfold Gh at h |-
 split at h
 ·exact h
 ·obtain⟨d,c,h1,h2,h3⟩:=h;exact⟨d,c,h1,h2.put hp eU hj hi,h3⟩
theorem gF(d:Option Nat)(v:AV)(bX:Env)(t:Nat):bJ (fQ d v bX) t=if d=some t then some v else bJ bX t:=by
 cases d with
 |none=>simp[fQ]
 |some d=>simp only[fQ,ff,Option.some.injEq]
theorem yG{op:Op}{e:Env}{s s':St}{v:AV}(hl:gu op=true)(hm: ∀id b,bJ s.heap id=some b->bJ s'.heap id=some b)(h:jc P op e s=some (v,s)):jc P op e s'=some (v,s'):=by
 have k: ∀{x y:Option AV},(∀v,x=some v->y=some v)->gE x s=some (v,s)->gE y s'=some (v,s'):=λIx h=>by
  rw[Ix v (dS h).1];rfl
 by_cases iA:kA op=true
 ·exact nk iA h
 ·cases op<;>simp only[gu]at hl<;>first|(cases hl;done)|(exact absurd rfl iA)|skip
  case load t p=>
   simp only[jc]at h |-
   split at h
   ·refine k (λv hv=>?_) h;unfold qd nJ at hv |-
    rename_i q _;cases q<;>simp only at hv |- <;>first|exact hv|skip
    rename_i id el off _;cases hg:bJ s.heap id with
    |none=>simp[hg]at hv
    |some b=>rw[hm id b hg];rw[hg]at hv;exact hv
   ·cases h
  case slice t x lo hi mx=>
   simp only[jc]at h |-
   split at h
   ·refine k (λv hv=>?_) h;unfold nf at hv |-
    rename_i q _;cases q<;>simp only at hv |- <;>first|exact hv|skip
    ·rename_i id b9 len _;cases he:eH P t with
     |none=>simp[he]at hv
     |some e'=>
      rw[he]at hv;simp only at hv |-
      cases hg:bJ s.heap id with
      |none=>simp[hg]at hv
      |some b=>rw[hm id b hg];rw[hg]at hv;exact hv
    ·rename_i id b9 len cap _;cases he:eH P t with
     |none=>simp[he]at hv
     |some e'=>
      rw[he]at hv;simp only at hv |-
      cases hg:bJ s.heap id with
      |none=>simp[hg]at hv
      |some b=>rw[hm id b hg];rw[hg]at hv;exact hv
   ·cases h
  case indexAddr t x i=>
   simp only[jc]at h |-
   split at h
   ·refine k (λv hv=>?_) h;unfold fy at hv |-
    rename_i q j _ _;cases j<;>simp only at hv |- <;>first|exact hv|skip
    cases he:eH P t with
    |none=>
     rw[he]at hv;simp only at hv |-
     cases ha:vv P t with
     |none=>rw[ha]at hv;exact hv
     |some me=>
      obtain⟨m,e⟩:=me;rw[ha]at hv;simp only at hv |-
      cases hz:dF P e with
      |none=>rw[hz]at hv;exact hv
      |some sz=>
       rw[hz]at hv;simp only at hv |-
       split at hv
       case isFalse=>cases hv
       rename_i hc;rw[dP hc];cases q<;>simp only at hv |- <;>first|exact hv|skip
       rename_i id el off _;cases hb:Nat.blt 8 (m*sz)with
       |false=>rw[hb]at hv;exact hv
       |true=>
        rw[hb]at hv;simp only[dt]at hv |-
        cases hg:bJ s.heap id with
        |none=>simp[hg]at hv
        |some b=>rw[hm id b hg];rw[hg]at hv;exact hv
    |some e'=>
     rw[he]at hv;simp only at hv |-
     cases q<;>simp only at hv |- <;>first|exact hv|skip
     rename_i id b9 len _;cases hg:bJ s.heap id with
     |none=>simp[hg]at hv
     |some b=>rw[hm id b hg];rw[hg]at hv;exact hv
   ·cases h
  case call c=>
   obtain⟨callee,args,ts⟩:=c;cases callee with
   |value f=>cases hl
   |invoke r m=>cases hl
   |builtin b=>cases b<;>simp only[]at hl<;>first|(cases hl;done)|(exact absurd rfl iA)
theorem wJ{s:St}{w:World}{G:cx}(hs:eQ G s w)(b:gU): ∀id c,bJ s.heap id=some c->bJ ((s.cr,b)::s.heap) id=some c:=λid c hg=>by
 simp only[di,cZ];rw[dY (λe=>by
  subst e;have:=hs.lt _ _ hg;omega)]
 exact hg
theorem Iw.later{s s':St}{w w':World}{G G':cx}{tmps Ro:Array Value}{i:Nat}(hs:eQ G s w)(h:Iw P l G s w0 w tmps i)(hx:Ext G s w G' s' w')
  (ht: ∀t,iT l i=some t->Ro[t]? =tmps[t]?):Iw P l G' s' w0 w' Ro i:=by
 obtain⟨o,t,ty,z,b,cs,e,h1,h2,h3,h4,h5,h6,h8,h9,Wv,h11⟩:=h;have hb:b<w.heap.size:=(Rc.1 h6).1;refine⟨o,t,ty,z,b,cs,e,h1,h2,h3,h4,?_,?_,h8.mono hx.le,?_,?_,h11⟩
 ·rw[ht t (by rw[gW h1];exact h3)];exact h5
 ·rw[hx.keep b hb h9];exact h6
 ·rintro⟨id,blk,r,q1,q2,q3⟩;rcases hx.jj id r q2 with h|h|h
  ·rcases hx.ids id blk q1 with⟨b0,D7⟩|JS
   ·exact h9 ⟨id,b0,r,D7,h,q3⟩
   ·rw[hs.cE id JS]at h;cases h
  ·omega
  ·rw[q3]at h;exact h9 h
 ·intro j;cases hj:G'.ir b j with
  |none=>rfl
  |some u=>
   rcases hx.jJ b j u hj with h|h|h
   ·rw[Wv j]at h;cases h
   ·omega
   ·exact absurd h h9
theorem eQ.Ww{s:St}{w:World}{G:cx}(hs:eQ G s w)(hx:Ext G0 s0 w0 G s w){b:Nat}{cs:Array Value}{e:TypeId}{z:AV}(hw:w.heap[b]? =some (.cells cs e (0,0)))(hv:VL G z.cells cs)
  (jT: ¬mE G s b) (hi: ∀j,G.ir b j=none) (hb:w0.heap.size<=b) (h0:0<z.cells.length) (jH:z.cells.all AV.dn=true) (hd: ∀id,bJ s0.heap id=some .gK->id≠s.cr):
  eQ (G.put s.cr ⟨b,0,z.cells.length,cs.size⟩) ⟨(s.cr,.cells z.cells.length [z])::s.heap,s.cr+1⟩ w/\
  Ext G0 s0 w0 (G.put s.cr ⟨b,0,z.cells.length,cs.size⟩) ⟨(s.cr,.cells z.cells.length [z])::s.heap,s.cr+1⟩ w/\sJ G (G.put s.cr ⟨b,0,z.cells.length,cs.size⟩):=by
 have eP:sJ G (G.put s.cr ⟨b,0,z.cells.length,cs.size⟩):=.put (hs.cE _ (eD _));have jF: ∀id bb,bJ ((s.cr,gU.cells z.cells.length [z])::s.heap) id=some bb->(id=s.cr/\bb=.cells z.cells.length [z])\/(id≠s.cr/\bJ s.heap id=some bb):=λid bb hg=>by
  simp only[di,cZ]at hg;split at hg
  ·cases hg;exact .inl ⟨by omega,rfl⟩
  ·exact .inr ⟨by omega,hg⟩
 have iu: ∀id,id≠s.cr->(G.put s.cr ⟨b,0,z.cells.length,cs.size⟩).own id=G.own id:=λid eU=>by simp[cx.put,eU]
 have nb:(G.put s.cr ⟨b,0,z.cells.length,cs.size⟩).own s.cr=some ⟨b,0,z.cells.length,cs.size⟩:=by simp[cx.put]
 refine⟨⟨hs.kS,λid bb hg=>?_,λid fL b1 b2 r1 r2 h1 h2 o1 o2 eU=>?_,λid bb r o hg ho=>?_,λid hid=>?_,λid bb hg=>?_⟩,
  ⟨hx.le.trans eP,hx.os,hx.tape,hx.output,hx.size,hx.keep,hx.jJ,λid r h=>?_,λid bb hg=>?_,xz hx.cr (Nat.le_succ _),λid hid=>?_,λid hl ho=>by have:=hx.cr;rw[iu id (by omega)];exact hx.stay id hl ho,hx.drawn⟩,eP⟩
 ·rcases jF id bb hg with⟨rfl,rfl⟩|⟨eU,hg⟩
  ·exact .inl ⟨_,_,nb,hw,.cells _ _ _ _ rfl rfl h0 (by simp) (by simpa[dB]using jH) (by simp[hv.1]) λk x hx=>by
    simp[dB]at hx;obtain⟨u,e1,e2⟩:=hv.get hx;exact⟨u,by simpa using e1,e2.mono eP⟩⟩
  ·rcases hs.heap id bb hg with⟨r,o,e1,e2,e3⟩|⟨e1,e2⟩
   ·exact .inl ⟨r,o,by rw[iu id eU];exact e1,e2,e3.mono eP⟩
   ·exact .inr ⟨by rw[iu id eU];exact e1,e2⟩
 ·rcases jF id b1 h1 with⟨rfl,rfl⟩|⟨n1,g1⟩<;>rcases jF fL b2 h2 with⟨rfl,rfl⟩|⟨n2,g2⟩
  ·exact absurd rfl eU
  ·rw[nb]at o1;cases o1;rw[iu _ n2]at o2;exactλe=>jT ⟨fL,b2,r2,g2,o2,e.symm⟩
  ·rw[nb]at o2;cases o2;rw[iu _ n1]at o1;exactλe=>jT ⟨id,b1,r1,g1,o1,e⟩
  ·rw[iu _ n1]at o1;rw[iu _ n2]at o2;exact hs.apart id fL b1 b2 r1 r2 g1 g2 o1 o2 eU
 ·rcases jF id bb hg with⟨rfl,rfl⟩|⟨n1,g1⟩
  ·rw[nb]at ho;cases ho;exact hi o
  ·rw[iu _ n1]at ho;exact hs.clear id bb r o g1 ho
 ·rw[iu id (by simp at hid;omega)];exact hs.cE id (by simp at hid;omega)
 ·show id<s.cr+1;rcases jF id bb hg with⟨rfl,rfl⟩|⟨_,g⟩
  ·omega
  ·have:=hs.lt id bb g;omega
 ·by_cases hid:id=s.cr
  ·subst hid;rw[nb]at h;cases h;exact .inr (.inl hb)
  ·rw[iu id hid]at h;exact hx.jj id r h
 ·rcases jF id bb hg with⟨rfl,rfl⟩|⟨_,g⟩
  ·exact .inr hx.cr
  ·exact hx.ids id bb g
 ·simp only[di,cZ];rw[dY (λe=>hd id hid e.symm)];exact hx.gK id hid
theorem qG(hp:il X P N l pre cu){st st2:Step}(h1:st∈cu)(h2:st2∈cu)(h:st.idx=st2.idx):st=st2:=by
 obtain⟨i,hi,rfl⟩:=ry h1;obtain⟨j,hj,rfl⟩:=ry h2;have hn:=hp.perm.2.2;rw[List.nodup_iff_pairwise_ne]at hn;have aai:i=j:=by
  have h':(cu.map Step.idx)[i]? =(cu.map Step.idx)[j]?:=by simp[hi,hj,h]
  exact(List.getElem?_inj (by simpa using hi) (by rw[List.nodup_iff_pairwise_ne];exact hn)).1 h'
 subst aai;rfl
theorem YD(hp:il X P N l pre cu)(h0:eQ G0 s0 w0): ∀(σ:List Step){E:Nat->Prop}{ds:List Step}{tr:List (Nat×Env×AV)}{bX:Env}{s:St}{a:Act}{w:World}{G:cx},
  qj P N ρ l pre cu K iD G0 s0 w0 E ds σ tr bX s a w G->
  ∃ds' σ' AY env' s' G',qj P N ρ l pre cu K iD G0 s0 w0 E ds' σ' AY env' s' a w G'/\ ∀st r,σ'=st::r->st.waits=true/\ ¬E st.idx
 | [],E,ds,tr,bX,s,a,w,G,h=>⟨ds,[],tr,bX,s,G,h,λ_ _ e=>by cases e⟩
 |st::r,E,ds,tr,bX,s,a,w,G,h=>by
  have kM:st∈cu:=by rw[h.split];simp
  have PO:=qF hp h.split;have sK:st.idx ∉ jM ds:=kB hp h.split (by simp);have fM:=h.run;have gl:=hp.perm.1 st kM;obtain⟨o,ho⟩: ∃o,l[st.idx]? =some o:=⟨_,dR gl⟩;have lX:=gW ho;have CA:cu=(ds++[st])++r:=by rw[h.split];simp
  have vp: ∀j,j∈jM (ds++[st])↔j∈jM ds\/j=st.idx:=λj=>by simp[jM]
  cases st with
  |iQ i note=>
   simp only[Step.idx]at *;simp only[AJ,ho]at fM;have vG:gu o.op=true:=hp.kinds _ kM o ho;have Vn: ¬E i:=λhE=>by
     rcases h.sub i hE with hi|⟨hi,_⟩
     ·exact sK hi
     ·have:=qG hp (st:=.alloc i) (st2:=.iQ i note) (by rw[h.split];simp only[lT];exact .inr hi) kM rfl;cases this
   have go: ∀(env':Env)(AY:List (Nat×Env×AV)),(∀t,iT l i≠some t->bJ env' t=bJ bX t)->(∀j,j≠i->qE AY j=qE tr j)->AJ P l K r AY env' s->
      Wu P l pre cu env' iD AY s i-> ∃ds' σ' AY env' s' G',qj P N ρ l pre cu K iD G0 s0 w0 E ds' σ' AY env' s' a w G'/\ ∀st r,σ'=st::r->st.waits=true/\ ¬E st.idx:=by
     intro env' AY eU htr Ip En;refine YD hp h0 r (ds:=ds++[.iQ i note]) (tr:=AY) (bX:=env') (s:=s) (G:=G) ⟨CA,Ip,h.jd,h.ext,h.size,h.mM,h.known,h.lt,h.closed,λj hj=>?_,λst2 iA hw=>?_,h.s1,λj hj tT t ht x hx=>?_,λt ht=>?_,λj hj Gi=>?_,λi1 j1 h1 h2 h3 h4=>h.Em i1 j1 h1 h2 (by simp[h3]) (by simp[h4])⟩
     ·rcases h.sub j hj with hd|⟨hd,he⟩
      ·exact .inl ((vp j).2 (.inl hd))
      ·rcases mZ.1 hd with hd|hd
       ·cases hd
       ·exact .inr ⟨hd,he⟩
     ·rcases lT.1 iA with iA|iA
      ·exact h.wait st2 iA hw
      ·simp at iA;subst iA;cases hw
     ·rcases(vp j).1 tT with tT|rfl
      ·rw[eU t λhit=>Vn (by rw[ib hp hit ht];exact hj)]at hx;exact h.s2 j hj tT t ht x hx
      ·exact absurd hj Vn
     ·rw[eU t λhit=>ht i ((vp i).2 (.inr rfl)) hit];exact h.e0 t λj hj=>ht j ((vp j).2 (.inl hj))
     ·rcases(vp j).1 hj with tT|rfl
      ·obtain⟨oj,q1,q2,q3⟩:=h.Kc j tT Gi;have Md: ∀p∈iS pre j,p∈jM ds:=kV hp h.split tT;have oI:j≠i:=λe=>sK (e ▸ tT);have Rp: ∀t,oj.dst=some t->bJ env' t=bJ bX t:=λt ht=>eU t λhit=>oI (ib hp (by rw[gW q1];exact ht) hit);refine⟨oj,q1,q2,?_⟩;rcases q3 with⟨g,e,v,p1,p2,p3,p4⟩|⟨g,p1⟩
       ·exact .inl ⟨g.put hp eU Md sK,e,v,λt x hx=>(p1 t x hx).put hp eU Md sK,p2,λt ht=>by rw[Rp t ht];exact p3 t ht,λiA=>by rw[htr j oI];exact p4 iA⟩
       ·exact .inr ⟨g.put hp eU Md sK,λt ht=>by rw[Rp t ht];exact p1 t ht⟩
      ·exact En
   have exec:(match jc P o.op (je (iR o) bX) s with
      |some (v,_)=>AJ P l K r (if note then(i,je (iR o) bX,v)::tr else tr) (fQ o.dst v bX) s
      |none=>False)->Gh l pre (fQ o.dst .any bX) iD i o true-> ∃ds' σ' AY env' s' G',qj P N ρ l pre cu K iD G0 s0 w0 E ds' σ' AY env' s' a w G'/\ ∀st r,σ'=st::r->st.waits=true/\ ¬E st.idx:=by
     intro hx hg;split at hx
     case h_2=>cases hx
     rename_i v s1 hv;have Wx:=pL vG hv;subst Wx;have eU: ∀t,iT l i≠some t->bJ (fQ o.dst v bX) t=bJ bX t:=λt ht=>by rw[gF,dY (by rw[<-lX];exact ht)]
     have nH: ∀t,iT l i≠some t->bJ (fQ o.dst v bX) t=bJ (fQ o.dst .any bX) t:=λt ht=>by rw[eU t ht,gF,dY (by rw[<-lX];exact ht)]
     refine go _ _ eU (λj hj=>?_) hx ⟨o,ho,vG,.inl ⟨hg.put hp nH PO sK,je (iR o) bX,v,λt x hx=>?_,hv,λt ht=>by rw[gF,dP ht],λiA=>?_⟩⟩
     ·cases note
      ·rfl
      ·simp only[wz,qE];rw[dY (λe=>hj e.symm)]
     ·obtain⟨q1,q2⟩:=Bx hx;exact(Bz hp h ho (by simp[q1]) q2 sK).put hp eU PO sK
     ·obtain⟨st,iA,rfl⟩:=iA;have:=qG hp iA kM rfl;cases this;simp[qE]
   have CB:(mF l o).guard=match o.guard with
      |none=>none
      |some (j,want)=>match(l[j]?).bind (·.dst)with
       |some d=>some (d,want)
       |none=>some (0,want):=rfl
   unfold YC at fM;rw[CB]at fM;cases Eo:o.guard with
   |none=>
     simp only[Eo,Gg]at fM;exact exec fM (by unfold Gh;rw[Eo])
   |some jw=>
     obtain⟨j,want⟩:=jw;have Rq:=(pA.1 hp.grd) o (gT ho);simp only[Eo]at Rq;obtain⟨d,hd⟩:=Bp.1 Rq;simp only[Eo,hd,Gg]at fM;have Ep: ∀x,bJ bX d=some x->GJ x want=some false->AJ P l K r tr (fQ o.dst (.eC []) bX) s-> ∃ds' σ' AY env' s' G',qj P N ρ l pre cu K iD G0 s0 w0 E ds' σ' AY env' s' a w G'/\ ∀st r,σ'=st::r->st.waits=true/\ ¬E st.idx:=by
      intro x hx hgx SO;have eU: ∀t,iT l i≠some t->bJ (fQ o.dst (.eC []) bX) t=bJ bX t:=λt ht=>by rw[gF,dY (by rw[<-lX];exact ht)]
      refine go _ _ eU (λ_ _=>rfl) SO ⟨o,ho,vG,.inr ⟨?_,λt ht=>by rw[gF,dP ht]⟩⟩;unfold Gh;rw[Eo];exact⟨d,x,hd,(Bz hp h ho (by simp[wI,Eo,hd]) hx sK).put hp eU PO sK,hgx⟩
     split at fM
     case h_3=>cases fM
     case h_2=>rename_i hb;exact Ep _ hb rfl fM
     rename_i b hb;have hrd: ∀v,Rd l pre (fQ o.dst v bX) iD i d (.bool b):=λv=>
      (Bz hp h ho (by simp[wI,Eo,hd]) hb sK).put hp (λt ht=>by rw[gF,dY (by rw[<-lX];exact ht)]) PO sK
     by_cases L5:b=want
     ·exact exec (fM.1 L5) (by
       unfold Gh;rw[Eo];exact⟨d,.bool b,hd,hrd _,by simp[L5,GJ]⟩)
     ·exact Ep _ hb (by simp[GJ,L5]) (fM.2 (by cases b<;>cases want<;>simp_all))
  |iI i xk=>
   by_cases hE:E i
   · exfalso;rcases h.sub i hE with hi|⟨hi,_⟩
     ·exact sK hi
     ·have:=qG hp (st:=.alloc i) (st2:=.iI i xk) (by rw[h.split];simp only[lT];exact .inr hi) kM rfl;cases this
   · exact⟨ds,_,tr,bX,s,G,h,λst r' e=>by cases e;exact⟨rfl,hE⟩⟩
  |alloc i=>
   by_cases hE:E i
   ·
     simp only[Step.idx]at *;rcases h.sub i hE with hi|⟨_,he⟩
     ·exact absurd hi sK
     ·obtain⟨o',t,ty,z,b,cs,e,h1,h2,h3,h4,h5,h6,h8,h9,Wv,h11⟩:=he;rw[ho]at h1;cases h1;simp only[AJ,ho,h2,jc,h4]at fM;unfold Cm at fM;split at fM
      case h_2=>cases fM
      rename_i v s1 hq;split at hq
      case isFalse=>cases hq
      rename_i hc;cases hq;obtain⟨q1,q2,q3⟩:=h.jd.Ww h.ext h6 h8 h9 Wv h11 hc.1 hc.2 (λid hid e=>by
       subst e;have h1:=h0.lt _ _ hid;have h2:=h.ext.cr;omega)
      have hdt:iT l i=some t:=by rw[lX];exact h3
      have eU: ∀t',iT l i≠some t'->bJ (fQ o.dst (.mp s.cr 0 0) bX) t'=bJ bX t':=λt' ht=>by rw[gF,dY (by rw[<-lX];exact ht)]
      refine YD hp h0 r (ds:=ds++[.alloc i]) ⟨CA,fM,q1,q2,h.size,?_,h.known.le q3,h.lt,h.closed,λj hj=>?_,λst2 iA hw=>?_,λt' x hx hn=>?_,λj hj tT t' ht x hx=>?_,λt' ht=>?_,λj hj Gi=>?_,λi1 j1 h1 h2 h3 h4=>h.Em i1 j1 h1 h2 (by simp[h3]) (by simp[h4])⟩
      ·have: ∀{dd:List Deferred},pE G s dd->pE (G.put s.cr ⟨b,0,z.cells.length,cs.size⟩) ⟨(s.cr,.cells z.cells.length [z])::s.heap,s.cr+1⟩ dd:=by
        intro dd
        induction dd with
        |nil=>intro _;trivial
        |cons d dd ih=>
         rintro⟨⟨id,r',a1,a2,a3,a4⟩,hr⟩;refine⟨⟨id,r',?_,q3.own _ _ a2,a3,a4⟩,ih hr⟩;simp only[di,cZ];rw[dY (λe=>by subst e;rw[h.jd.cE _ (eD _)]at a2;cases a2)];exact a1
       exact this h.mM
      ·rcases h.sub j hj with hd|⟨hd,he⟩
       ·exact .inl ((vp j).2 (.inl hd))
       ·rcases mZ.1 hd with hd|hd
        ·cases hd;exact .inl ((vp _).2 (.inr rfl))
        ·refine .inr ⟨hd,?_⟩;obtain⟨oj,tj,tyj,zj,bj,csj,ej,j1,j2,j3,j4,j5,j6,j8,j9,j10,j11⟩:=he;refine⟨oj,tj,tyj,zj,bj,csj,ej,j1,j2,j3,j4,j5,j6,j8.mono q3,?_,j10,j11⟩;have hji:i≠j:=λe=>by
          subst e;exact kB hp CA hd ((vp _).2 (.inr rfl))
         rintro⟨id,blk,r',g1,g2,g3⟩;by_cases hid:id=s.cr
         ·subst hid;simp only[cx.put,wz,Option.some.injEq]at g2;subst g2;simp only at g3;subst g3;exact h.Em i j hE hj (by simp) (by simp[hd]) hji t tj hdt (by rw[gW j1];exact j3) (by rw[h5,j5])
         ·simp only[cx.put,dY hid]at g2;simp only[di,cZ]at g1;rw[dY (λe=>hid e.symm)]at g1;exact j9 ⟨id,blk,r',g1,g2,g3⟩
      ·rcases lT.1 iA with iA|iA
       ·exact h.wait st2 iA hw
       ·simp at iA;subst iA;exact hE
      ·obtain⟨p1,p2⟩:=h.s1 t' x hx hn;exact⟨p1,p2.mono q3⟩
      ·rcases(vp j).1 tT with tT|rfl
       ·rw[eU t' λhit=>sK (by rw[ib hp hit ht];exact tT)]at hx;exact(h.s2 j hj tT t' ht x hx).mono q3
       ·rw[hdt]at ht;cases ht;rw[gF,dP h3]at hx;cases hx;rw[wx,h5];have:=V.mp (G:=G.put s.cr ⟨b,0,z.cells.length,cs.size⟩) s.cr 0 0 ⟨b,0,z.cells.length,cs.size⟩ (by simp[cx.put]);simpa using this
      ·rw[eU t' λhit=>ht i ((vp i).2 (.inr rfl)) hit];exact h.e0 t' λj hj=>ht j ((vp j).2 (.inl hj))
      ·rcases(vp j).1 hj with tT|rfl
       ·obtain⟨oj,q4,q5,q6⟩:=h.Kc j tT Gi;have Md: ∀p∈iS pre j,p∈jM ds:=kV hp h.split tT;have oI:j≠i:=λe=>sK (e ▸ tT);have Rp: ∀t,oj.dst=some t->bJ (fQ o.dst (.mp s.cr 0 0) bX) t=bJ bX t:=λt ht=>eU t λhit=>oI (ib hp (by rw[gW q4];exact ht) hit);refine⟨oj,q4,q5,?_⟩;rcases q6 with⟨g,e',v,p1,p2,p3,p4⟩|⟨g,p1⟩
        ·exact .inl ⟨g.put hp eU Md sK,e',v,λt x hx=>(p1 t x hx).put hp eU Md sK,yG q5 (wJ h.jd _) p2,λt ht=>by rw[Rp t ht];exact p3 t ht,p4⟩
        ·exact .inr ⟨g.put hp eU Md sK,λt ht=>by rw[Rp t ht];exact p1 t ht⟩
       ·exact absurd hE Gi
   · exact⟨ds,_,tr,bX,s,G,h,λst r' e=>by cases e;exact⟨rfl,hE⟩⟩
end
end Go.Am
end
section
namespace Go.Am
open Go.RowKit
section
variable {X:Nat->Nat->Prop} {P:Program} {N:Nat} {ρ:Option Nat} {l:List Oper} {pre:List (List Nat)} {cu:List Step} {K:Env->St->Prop} {iD:Env} {G0:cx} {s0:St} {w0:World}
theorem eQ.grow{s:St}{w:World}{G:cx}(h:eQ G s w)(o:Obj):eQ G s (w.alloc o)/\Ext G s w G s (w.alloc o):=by
 refine⟨⟨⟨λb i v hi=>?_,h.kS.2⟩,λid b hg=>?_,h.apart,h.clear,h.cE,h.lt⟩,⟨.refl G,rfl,rfl,rfl,by simp,λb hb _=>Below.heap_alloc _ _ _ hb,λ_ _ _ h=>.inl h,λ_ _ h=>.inl h,λ_ _ h=>.inl ⟨_,h⟩,eD _,λ_ h=>h,λ_ _ h=>h,eD _⟩⟩
 ·have hb:=h.pB hi;rw[rA hb];exact h.ir b i v hi
 ·rcases h.heap id b hg with⟨r,o',e1,e2,e3⟩|e
  ·exact .inl ⟨r,o',e1,by rw[Below.heap_alloc _ _ _ (h.jy hg e1)];exact e2,e3⟩
  ·exact .inr e
theorem Iy{p q:Nat->Bool}: ∀{l:List Nat},(∀x∈l,q x=true->p x=true)-> ∀{i},i∈l->p i=true->q i=false->(l.filter q).length<(l.filter p).length
 | [],_,i,hi,_,_=>by cases hi
 |x::r,h,i,hi,hp,hq=>by
  have eP: ∀{l:List Nat},(∀x∈l,q x=true->p x=true)->(l.filter q).length<=(l.filter p).length:=λ{l}h=>by
   induction l with
   |nil=>simp
   |cons y t ih=>
    have ih':=ih λz hz=>h z (by simp[hz]);simp only[Vb];by_cases hy:q y=true
    ·rw[dP hy,dP (h y (by simp) hy)];simpa using ih'
    ·rw[dY hy];split
     ·simp only[oC];omega
     ·exact ih'
  simp only[Vb];rcases mZ.1 hi with rfl|hi
  ·rw[dY (by simp[hq]),dP hp,oC];have:=eP (l:=r) λz hz=>h z (by simp[hz]);omega
  ·have ih:=Iy (l:=r) (λz hz=>h z (by simp[hz])) hi hp hq;by_cases hx:q x=true
   ·rw[dP hx,dP (h x (by simp) hx)];simpa using ih
   ·rw[dY hx];split
    ·simp only[oC];omega
    ·exact ih
theorem yH{v:Value}{x:AV}(h:ofValue v=some x):x≠ .any:=by
 unfold ofValue at h;split at h
 ·split at h
  ·cases h;simp
  ·cases h
 ·unfold yl at h;split at h<;>cases h<;>simp
theorem CC{t:Nat}{x:AV}(h:jK P t=some x):x≠ .any:=by
 unfold jK at h;split at h
 ·exact yH h
 ·cases h
theorem rH{ops:Array Oper}(hl:ops.toList=l){E:Nat->Prop}{ds σ:List Step}{tr:List (Nat×Env×AV)}{bX:Env}{s:St}{a:Act}{w:World}{G:cx}(hp:il X P N l pre cu)
  (h:qj P N ρ l pre cu K iD G0 s0 w0 E ds σ tr bX s a w G) {i:Nat} {o:Oper} {b:Bool} (hg:Gh l pre bX iD i o b) (kO: ∀p∈iS pre i,E p) (hd: ∀p∈iS pre i,p∈jM ds) (rG: ¬E i):
  Region.wanted o (yielded ops a.tmps)=b:=by
 unfold Gh at hg;unfold Region.wanted;split at hg
 ·rename_i hq;rw[hq];exact hg.symm
 ·rename_i j want hq;obtain⟨d,x,h1,h2,h3⟩:=hg;obtain⟨q1,q2⟩:=Cz hp h h2 kO hd rG;rw[hq];unfold GJ at h3;have Wy:yielded ops a.tmps j=match a.tmps.getD d undef with
    |.bool b=>some b
    |_=>none:=by
   unfold yielded;have:(ops[j]?).bind (·.dst)=some d:=by
    rw[<-h1];unfold iT;rw[<-hl];simp
   rw[this];simp only[dm];have gl:d<a.tmps.size:=by rw[h.size];exact q1
   rw[wx,Lj gl,Ce];generalize a.tmps[d]=v;cases v<;>rfl
  generalize a.tmps.getD d undef=v at q2 Wy;split at h3
  ·rename_i c want;cases q2;simp only at Wy;simp only[Wy];cases h3;cases c<;>cases want<;>rfl
  ·cases q2;simp only at Wy;simp only[Wy];cases h3;rfl
  ·cases h3
theorem jo{a:Act}{d:Option Nat}{v:Value}{t:Nat}(h:d≠some t):(a.put d v).tmps.getD t undef=a.tmps.getD t undef/\(a.put d v).tmps[t]? =a.tmps[t]?:=by
 cases d with
 |none=>exact⟨rfl,rfl⟩
 |some d=>
  have eU:d≠t:=λe=>h (by rw[e]);simp only[Act.put];refine⟨?_,VX eU⟩;rw[wx,VX eU,<-wx]
theorem lO{a:Act}{t:Nat}{v:Value}(h:t<a.tmps.size):(a.put (some t) v).tmps.getD t undef=v/\(a.put (some t) v).tmps[t]? =some v:=by
 simp[Act.put,wx,h]
theorem yI(a:Act)(d:Option Nat)(v:Value):(a.put d v).tmps.size=a.tmps.size:=by cases d<;>simp[Act.put]
theorem qH(a:Act)(d:Option Nat)(v:Value):(a.put d v).defers=a.defers:=by cases d<;>rfl
theorem yJ{E:Nat->Prop}{ds σ:List Step}{tr:List (Nat×Env×AV)}{bX:Env}{s:St}{a:Act}{w w':World}{G G':cx}(hp:il X P N l pre cu)(h0:eQ G0 s0 w0)
  (h:qj P N ρ l pre cu K iD G0 s0 w0 E ds σ tr bX s a w G) {i:Nat} {o:Oper} (ho:l[i]? =some o) (hi:i∈jM ds) (rG: ¬E i) (kO: ∀p∈iS pre i,E p) {v:Value}
  (hv: ∀t,o.dst=some t-> ∀x,bJ bX t=some x->V G' x v) (hs:eQ G' s w') (hx:Ext G s w G' s w') {E':Nat->Prop} (hE: ∀j,E' j↔E j\/j=i):
  qj P N ρ l pre cu K iD G0 s0 w0 E' ds σ tr bX s (a.put o.dst v) w' G':=by
 have lX:=gW ho;refine⟨h.split,h.run,hs,h.ext.trans h0 hx,by rw[yI];exact h.size,by rw[qH];exact h.mM.ext hx,h.known.le hx.le,λj hj=>?_,λj hj p oH=>?_,λj hj=>?_,λst iA hw=>(hE _).2 (.inl (h.wait st iA hw)),λt x xG hn=>?_,λj hj tT t ht x xG=>?_,h.e0,λj hj Gi=>?_,λi1 j1 h1 h2 h3 h4 oI t1 t2 d1 d2=>?_⟩
 ·rcases(hE j).1 hj with hj|rfl
  ·exact h.lt j hj
  ·exact(fT.1 ho).1
 ·rcases(hE j).1 hj with hj|rfl
  ·exact(hE p).2 (.inl (h.closed j hj p oH))
  ·exact(hE p).2 (.inl (kO p oH))
 ·rcases(hE j).1 hj with hj|rfl
  ·rcases h.sub j hj with hd|⟨hd,he⟩
   ·exact .inl hd
   ·refine .inr ⟨hd,he.later h.jd hx λt ht=>(jo λe=>?_).2⟩;have:=ib hp (by rw[lX];exact e) ht;subst this;exact rG hj
  ·exact .inl hi
 ·have h1:o.dst≠some t:=λe=>hn i ((hE i).2 (.inr rfl)) (by rw[lX];exact e);rw[(jo h1).1];obtain⟨q1,q2⟩:=h.s1 t x xG λj hj=>hn j ((hE j).2 (.inl hj));exact⟨q1,q2.mono hx.le⟩
 ·rcases(hE j).1 hj with hj|rfl
  ·have h1:o.dst≠some t:=λe=>by
    have:=ib hp (by rw[lX];exact e) ht;subst this;exact rG hj
   rw[(jo h1).1];exact(h.s2 j hj tT t ht x xG).mono hx.le
  ·rw[lX]at ht;have gl:t<a.tmps.size:=by
    have h2:=(pA.1 hp.Kb) o (gT ho);rw[ht]at h2;rw[h.size];simpa[ng]using h2
   rw[ht,(lO gl).1];exact hv t ht x xG
 ·exact h.Kc j hj λe=>Gi ((hE j).2 (.inl e))
 ·have qq: ∀{k tk},E' k->Step.alloc k∈σ->iT l k=some tk->E k/\(a.put o.dst v).tmps[tk]? =a.tmps[tk]?:=λ{k tk}hk Me Mf=>by
   rcases(hE k).1 hk with hk|rfl
   ·refine⟨hk,(jo λe=>?_).2⟩;have:=ib hp (by rw[lX];exact e) Mf;subst this;exact rG hk
   ·exact absurd hi (kB hp h.split Me)
  obtain⟨e1,e2⟩:=qq h1 h3 d1;obtain⟨e3,e4⟩:=qq h2 h4 d2;rw[e2,e4];exact h.Em i1 j1 e1 e3 h3 h4 oI t1 t2 d1 d2
theorem vH{E:Nat->Prop}{ds r:List Step}{st:Step}{tr:List (Nat×Env×AV)}{bX:Env}{s s':St}{a:Act}{w w':World}{G G':cx}(hp:il X P N l pre cu)(h0:eQ G0 s0 w0)
  (h:qj P N ρ l pre cu K iD G0 s0 w0 E ds (st::r) tr bX s a w G) {o:Oper} (ho:l[st.idx]? =some o) (rG: ¬E st.idx) (kO: ∀p∈iS pre st.idx,E p) {v:Value} {env':Env}
  (eU: ∀t,o.dst≠some t->bJ env' t=bJ bX t) (hv: ∀t,o.dst=some t-> ∀x,bJ env' t=some x->V G' x v) (hs:eQ G' s' w') (hx:Ext G s w G' s' w')
  (fM:AJ P l K r tr env' s') (Wz: ∀j∈jM ds,¬E j-> ∀oj e v,l[j]? =some oj->gu oj.op=true->jc P oj.op e s=some (v,s)->((∃st∈cu,st=.iQ j true)->qE tr j=some (e,v))->j ∉ iS pre st.idx->jc P oj.op e s'=some (v,s'))
  {E':Nat->Prop} (hE: ∀j,E' j↔E j\/j=st.idx):
  qj P N ρ l pre cu K iD G0 s0 w0 E' (ds++[st]) r tr env' s' (a.put o.dst v) w' G':=by
 have lX:=gW ho;have sK:st.idx ∉ jM ds:=kB hp h.split (by simp);have vp: ∀j,j∈jM (ds++[st])↔j∈jM ds\/j=st.idx:=λj=>by simp[jM]
 have nH: ∀t,iT l st.idx≠some t->bJ env' t=bJ bX t:=λt ht=>eU t (by rw[<-lX];exact ht);have kM:st∈cu:=by rw[h.split];simp
 refine⟨by rw[h.split];simp,fM,hs,h.ext.trans h0 hx,by rw[yI];exact h.size,by rw[qH];exact h.mM.ext hx,h.known.le hx.le,λj hj=>?_,λj hj p oH=>?_,λj hj=>?_,λst2 iA hw=>?_,λt x xG hn=>?_,λj hj tT t ht x xG=>?_,λt ht=>?_,λj hj Gi=>?_,λi1 j1 h1 h2 h3 h4 oI t1 t2 d1 d2=>?_⟩
 ·rcases(hE j).1 hj with hj|rfl
  ·exact h.lt j hj
  ·exact(fT.1 ho).1
 ·rcases(hE j).1 hj with hj|rfl
  ·exact(hE p).2 (.inl (h.closed j hj p oH))
  ·exact(hE p).2 (.inl (kO p oH))
 ·rcases(hE j).1 hj with hj|rfl
  ·rcases h.sub j hj with hd|⟨hd,he⟩
   ·exact .inl ((vp j).2 (.inl hd))
   ·rcases mZ.1 hd with hd|hd
    ·exfalso;rw[<-hd]at rG;exact rG hj
    ·refine .inr ⟨hd,he.later h.jd hx λt ht=>(jo λe=>?_).2⟩;have:=ib hp (by rw[lX];exact e) ht;subst this;exact rG hj
  ·exact .inl ((vp _).2 (.inr rfl))
 ·rcases lT.1 iA with iA|iA
  ·exact(hE _).2 (.inl (h.wait st2 iA hw))
  ·simp at iA;subst iA;exact(hE _).2 (.inr rfl)
 ·have h1:o.dst≠some t:=λe=>hn st.idx ((hE _).2 (.inr rfl)) (by rw[lX];exact e);rw[(jo h1).1];obtain⟨q1,q2⟩:=h.s1 t x xG λj hj=>hn j ((hE j).2 (.inl hj));exact⟨q1,q2.mono hx.le⟩
 ·rcases(hE j).1 hj with hj|rfl
  ·have h1:o.dst≠some t:=λe=>by
    have:=ib hp (by rw[lX];exact e) ht;subst this;exact rG hj
   rw[(jo h1).1];rw[eU t h1]at xG;rcases(vp j).1 tT with tT|rfl
   ·exact(h.s2 j hj tT t ht x xG).mono hx.le
   ·exact absurd hj rG
  ·rw[lX]at ht;have gl:t<a.tmps.size:=by
    have h2:=(pA.1 hp.Kb) o (gT ho);rw[ht]at h2;rw[h.size];simpa[ng]using h2
   rw[ht,(lO gl).1];exact hv t ht x xG
 ·rw[nH t λhit=>ht st.idx ((vp _).2 (.inr rfl)) hit];exact h.e0 t λj hj=>ht j ((vp j).2 (.inl hj))
 ·have Vn: ¬E j:=λe=>Gi ((hE j).2 (.inl e));rcases(vp j).1 hj with tT|rfl
  ·obtain⟨oj,q4,q5,q6⟩:=h.Kc j tT Vn;have Md: ∀p∈iS pre j,p∈jM ds:=kV hp h.split tT;have oI:j≠st.idx:=λe=>sK (e ▸ tT);have Rp: ∀t,oj.dst=some t->bJ env' t=bJ bX t:=λt ht=>nH t λhit=>oI (ib hp (by rw[gW q4];exact ht) hit);have hjp:j ∉ iS pre st.idx:=λe=>Vn (kO j e);refine⟨oj,q4,q5,?_⟩;rcases q6 with⟨g,e',v',p1,p2,p3,p4⟩|⟨g,p1⟩
   ·exact .inl ⟨g.put hp nH Md sK,e',v',λt x hx=>(p1 t x hx).put hp nH Md sK,Wz j tT Vn oj e' v' q4 q5 p2 p4 hjp,λt ht=>by rw[Rp t ht];exact p3 t ht,p4⟩
   ·exact .inr ⟨g.put hp nH Md sK,λt ht=>by rw[Rp t ht];exact p1 t ht⟩
  ·exact absurd ((hE _).2 (.inr rfl)) Gi
 ·have PE:cu=(ds++[st])++r:=by rw[h.split];simp
  have qq: ∀{k tk},E' k->Step.alloc k∈r->iT l k=some tk->E k/\(a.put o.dst v).tmps[tk]? =a.tmps[tk]?:=λ{k tk}hk Me Mf=>by
   rcases(hE k).1 hk with hk|rfl
   ·refine⟨hk,(jo λe=>?_).2⟩;have:=ib hp (by rw[lX];exact e) Mf;subst this;exact rG hk
   ·exact absurd ((vp _).2 (.inr rfl)) (kB (st:=.alloc st.idx) hp PE Me)
  obtain⟨e1,e2⟩:=qq h1 h3 d1;obtain⟨e3,e4⟩:=qq h2 h4 d2;rw[e2,e4];exact h.Em i1 j1 e1 e3 (by simp[h3]) (by simp[h4]) oI t1 t2 d1 d2
theorem Kd{ops:Array Oper}(hl:ops.toList=l)(hp:il X P N l pre cu)(h0:eQ G0 s0 w0){Q:Exit->Env->St->Prop}(ro:Option Nat){qk:Nat}{listed:Array Bool}{ds r:List Step}{st:Step}{tr:List (Nat×Env×AV)}{bX:Env}{s:St}{a:Act}{w:World}{G:cx}
  (h:qj P N ρ l pre cu K iD G0 s0 w0 (λi=>listed.getD i false=true) ds (st::r) tr bX s a w G) (hw:st.waits=true) {o:Oper} (ho:l[st.idx]? =some o) (rG: ¬listed.getD st.idx false=true) (kO: ∀p∈iS pre st.idx,listed.getD p false=true) (fB:st.idx ∉ jM ds)
  (hE: ∀j,(listed.setIfInBounds st.idx true).getD j false=true↔listed.getD j false=true\/j=st.idx)
  (go: ∀{ds' σ':List Step}{AY:List (Nat×Env×AV)}{env':Env}{s':St}{a':Act}{w':World}{G':cx},
    qj P N ρ l pre cu K iD G0 s0 w0 (λj=>(listed.setIfInBounds st.idx true).getD j false=true) ds' σ' AY env' s' a' w' G'->wpAnyIn (vx ro) 0 P .any ops (iy G0 N ρ s0 w0 Q) qk (listed.setIfInBounds st.idx true) a' w'):
  if Region.wanted o (yielded ops a.tmps)=true then o.wpIn (vx ro) 0 P a w (wpAnyIn (vx ro) 0 P .any ops (iy G0 N ρ s0 w0 Q) qk (listed.setIfInBounds st.idx true)) (iy G0 N ρ s0 w0 Q)else(∀f,o.about P w a.eval=some f->(vx ro).fn f)/\wpAnyIn (vx ro) 0 P .any ops (iy G0 N ρ s0 w0 Q) qk (listed.setIfInBounds st.idx true) (a.put o.dst undef) w:=by
 have lX:=gW ho;have kM:st∈cu:=by rw[h.split];simp
 have PP: ∀p∈iS pre st.idx,p∈jM ds:=qF hp h.split;have fM:=h.run;have hrd: ∀t∈iR o++wI l o,∀x,bJ bX t=some x->t<N/\V G x (a.tmps.getD t undef):=λt ht x hx=>Cz hp h (Bz hp h ho ht hx fB) kO PP rG;cases st with
 |iQ _ _=>cases hw
 |iI i xk=>
  simp only[Step.idx]at *;simp only[AJ,ho]at fM;unfold YC at fM;have J9:xF G N ρ (je (iR o) bX) s a w:=⟨h.jd,λt x hx=>by
   obtain⟨m1,m2⟩:=Bx hx;obtain⟨r1,r2⟩:=hrd t (by simp[m1]) x m2;exact⟨by rw[h.size];exact r1,r2⟩,h.size,h.mM,h.known⟩
  have exec:ows P o.op (λv s'=>tc P l tr s' xk/\AJ P l K r tr (fQ o.dst v bX) s') (je (iR o) bX) s->o.wpIn (vx ro) 0 P a w (wpAnyIn (vx ro) 0 P .any ops (iy G0 N ρ s0 w0 Q) qk (listed.setIfInBounds i true)) (iy G0 N ρ s0 w0 Q):=by
   intro aaj;refine vE (K:=λv s'=>tc P l tr s' xk/\AJ P l K r tr (fQ o.dst v bX) s') aaj J9 ro ?_;intro v G' x s' w' hv hs hx ⟨hc,hr⟩;refine go (vH (st:=.iI i xk) hp h0 h ho rG kO (env':=fQ o.dst x bX) (λt ht=>by rw[gF,dY ht]) (λt ht y hy=>by rw[gF,dP ht]at hy;cases hy;exact hv) hs hx hr (λj hj Gi oj e u q1 q2 q3 q4 q5=>?_) hE);by_cases iA:kA oj.op=true
   ·exact nk iA q3
   ·have hk:cu[ds.length]? =some (.iI i xk):=by rw[h.split];simp
    have YE:=hp.Ma ds.length (by rw[Cg,h.split];simp) _ hk;simp only at YE;obtain⟨stj,SP,rfl⟩:=kl.1 hj;have Rr:stj∈cu.take ds.length:=by rw[h.split];simpa using SP
    have h3:=YE stj Rr;cases stj with
    |iQ j note=>
     simp only at h3;rcases h3 oj q1 with h4|h4|⟨rfl,h4⟩
     ·exact absurd h4 iA
     ·exact absurd h4 q5
     ·exact yF hc j h4 (q4 ⟨_,xA Rr,rfl⟩) q1
    |iI j c=>exact absurd (h.wait _ SP rfl) Gi
    |alloc j=>exact absurd (h.wait _ SP rfl) Gi
  have WA:(mF l o).guard=match o.guard with
    |none=>none
    |some (j,want)=>match(l[j]?).bind (·.dst)with
     |some d=>some (d,want)
     |none=>some (0,want):=rfl
  rw[WA]at fM;cases Eo:o.guard with
  |none=>
   simp only[Eo,Gg]at fM;rw[dP (by simp[Region.wanted,Eo])];exact exec fM
  |some jw=>
   obtain⟨j,want⟩:=jw;have Rq:=(pA.1 hp.grd) o (gT ho);simp only[Eo]at Rq;obtain⟨d,hd⟩:=Bp.1 Rq;simp only[Eo,hd,Gg]at fM;have Ep: ∀x,bJ bX d=some x->GJ x want=some false->AJ P l K r tr (fQ o.dst (.eC []) bX) s->_:=λx hx hgx SO=>by
    have SQ:Gh l pre bX iD i o false:=by
     unfold Gh;rw[Eo];exact⟨d,x,hd,Bz hp h ho (by simp[wI,Eo,hd]) hx fB,hgx⟩
    have Mg:=rH hl hp h SQ kO PP rG;exact(by
     rw[dY (by rw[Mg];simp)];exact⟨λ_ _=>trivial,go (vH (st:=.iI i xk) hp h0 h ho rG kO (env':=fQ o.dst (.eC []) bX) (λt ht=>by rw[gF,dY ht]) (λt ht y hy=>by rw[gF,dP ht]at hy;cases hy;exact .eC [] #[] rfl (by simp)) h.jd (.refl _ _ _) SO (λj hj Gi oj e u q1 q2 q3 q4 q5=>q3) hE)⟩:if Region.wanted o (yielded ops a.tmps)=true then o.wpIn (vx ro) 0 P a w (wpAnyIn (vx ro) 0 P .any ops (iy G0 N ρ s0 w0 Q) qk (listed.setIfInBounds i true)) (iy G0 N ρ s0 w0 Q)else(∀f,o.about P w a.eval=some f->(vx ro).fn f)/\wpAnyIn (vx ro) 0 P .any ops (iy G0 N ρ s0 w0 Q) qk (listed.setIfInBounds i true) (a.put o.dst undef) w)
   split at fM
   case h_3=>cases fM
   case h_2=>rename_i hb;exact Ep _ hb rfl fM
   rename_i b hb;have SQ:Gh l pre bX iD i o (b==want):=by
    unfold Gh;rw[Eo];exact⟨d,.bool b,hd,Bz hp h ho (by simp[wI,Eo,hd]) hb fB,rfl⟩
   have Mg:=rH hl hp h SQ kO PP rG;by_cases L5:b=want
   ·rw[dP (by rw[Mg];simp[L5])];exact exec (fM.1 L5)
   ·exact Ep _ hb (by simp[GJ,L5]) (fM.2 (by cases b<;>cases want<;>simp_all))
 |alloc i=>
  simp only[Step.idx]at *;simp only[AJ,ho]at fM;obtain⟨k1,k2,k3⟩:=hp.kinds _ kM o ho;rw[dP (by simp[Region.wanted,k2])];split at fM
  case h_2=>cases fM
  rename_i v s' hv;obtain⟨nx,u,G',w',e1,e2,e3,e4,e5⟩:=vD (a:=a) h.jd (bX:=[]) (λt x hx=>by simp[di,cZ]at hx) o hv;have WB: ∀id b,bJ s.heap id=some b->bJ s'.heap id=some b:=by
   cases yB:o.op with
   |alloc t=>
    rw[yB]at hv k1;obtain⟨z0,WC⟩:=Bp.1 k1;simp only[jc,WC]at hv
    ·unfold Cm at hv;split at hv
     ·cases hv;exact wJ h.jd _
     ·cases hv
   |_=>rw[yB]at k1;exact k1.elim
  refine⟨λ_ _=>trivial,?_⟩;rw[Oper.semAt_eq _ _ _ (λc=>by intro e;rw[e]at k1;exact k1.elim),e1];have vq:=vH (st:=.alloc i) hp h0 h ho rG kO (v:=u) (env':=fQ o.dst v bX) (λt ht=>by rw[gF,dY ht]) (λt ht y hy=>by rw[gF,dP ht]at hy;cases hy;exact e3) e4 e5 fM
   (λj hj Gi oj e u q1 q2 q3 q4 q5=>yG q2 WB q3) hE
  rcases e2 with rfl|⟨rfl,rfl⟩
  ·rw[Oper.uponIn_value];exact go vq
  ·rw[Oper.uponIn_skip];exact go vq
theorem Mh{ops:Array Oper}(hl:ops.toList=l): ∀(listed:Array Bool)(i:Nat),listed.size=l.length->i∈Region.ready .any ops listed->i<l.length/\listed.getD i false=false/\ ∀o,l[i]? =some o-> ∀p∈direct o,listed.getD p false=true:=by
 have dJ:ops.size=l.length:=by rw[<-hl];simp
 intro listed i eG hi;unfold Region.ready at hi;rw[nT,Cg]at hi;obtain⟨h1,h2⟩:=hi;rw[dJ]at h1;simp only[fE,qn]at h2;refine⟨h1,?_,λo ho p oH=>?_⟩
 ·have:=h2.1;have gl:i<listed.size:=by omega
  simp only[wx,Lj gl,Ce]at this |-
  exact this
 ·have h3:=h2.2;have WD:ops[i]? =some o:=by rw[<-ho,<-hl];simp
  rw[WD]at h3;simp only[gX,Ce,zE8,tY,qn]at h3;obtain⟨e,he,rfl⟩:=kl.1 oH;obtain⟨Rs,Rt⟩:=nT.1 he;rcases h3 e (by simpa using Rs)with h|h
  ·rw[h]at Rt;cases Rt
  ·exact h
theorem Ke{ops:Array Oper}(hl:ops.toList=l)(hp:il X P N l pre cu): ∀(listed:Array Bool),listed.size=l.length->Region.ready .any ops listed=[]-> ∀i,i<l.length->listed.getD i false=true:=by
 have dJ:ops.size=l.length:=by rw[<-hl];simp
 intro listed eG hr i
 induction i using Nat.strongRecOn with
 |_ i ih=>
  intro hi;apply Classical.byContradiction;intro hn;have kM:i∈Region.ready .any ops listed:=by
   unfold Region.ready;rw[nT,Cg];refine⟨by omega,?_⟩;obtain⟨o,ho⟩: ∃o,l[i]? =some o:=⟨_,dR hi⟩;have WD:ops[i]? =some o:=by rw[<-ho,<-hl];simp
   have gl:i<listed.size:=by omega
   simp only[fE,qn,WD,gX,Ce,zE8,tY];refine⟨?_,λe he=>?_⟩
   ·simp only[wx,Lj gl,Ce]at hn |-
    simpa using hn
   ·by_cases hb:Region.binds .any e=true
    ·right;have hd:e.on∈direct o:=kl.2 ⟨e,nT.2 ⟨by simpa using he,hb⟩,rfl⟩;have aak:=(hp.L8 i (Cg.2 hi) o ho).1 e.on hd;exact ih e.on aak (by omega)
    ·left;simpa using hb
  rw[hr]at kM;cases kM
theorem Kf{ops:Array Oper}(hl:ops.toList=l)(hp:il X P N l pre cu)(h0:eQ G0 s0 w0){Q:Exit->Env->St->Prop}(hQ: ∀bX s,K bX s->Q .normal bX s)(ro:Option Nat):
  ∀(qk:Nat)(listed:Array Bool)(ds σ:List Step)(tr:List (Nat×Env×AV))(bX:Env)(s:St)(a:Act)(w:World)(G:cx),listed.size=l.length->
    ((List.range l.length).filter λi=>!listed.getD i false).length<=qk->
    qj P N ρ l pre cu K iD G0 s0 w0 (λi=>listed.getD i false=true) ds σ tr bX s a w G->(∀st r,σ=st::r->st.waits=true/\ ¬listed.getD st.idx false=true)->(∀x y,X x y->listed.getD x false=true)->
    wpAnyIn (vx ro) 0 P .any ops (iy G0 N ρ s0 w0 Q) qk listed a w:=by
 have dJ:ops.size=l.length:=by rw[<-hl];simp
 have fin: ∀(listed:Array Bool)(ds σ:List Step)(tr:List (Nat×Env×AV))(bX:Env)(s:St)(a:Act)(w:World)(G:cx),listed.size=l.length->
    qj P N ρ l pre cu K iD G0 s0 w0 (λi=>listed.getD i false=true) ds σ tr bX s a w G->(∀st r,σ=st::r->st.waits=true/\ ¬listed.getD st.idx false=true)->
    (∀i,i<l.length->listed.getD i false=true)->iy G0 N ρ s0 w0 Q .normal a w:=by
  intro listed ds σ tr bX s a w G eG h hn jz;have hσ:σ=[]:=by
    cases σ with
    |nil=>rfl
    |cons st r=>
     exfalso;exact(hn st r rfl).2 (jz _ (hp.perm.1 st (by rw[h.split];simp)))
  subst hσ;have fB: ∀i,i<l.length->i∈jM ds:=λi hi=>by
    rcases h.sub i (jz i hi)with hd|⟨hd,_⟩
    ·exact hd
    ·cases hd
  refine⟨G,bX,s,⟨h.jd,λt x hx=>?_,h.size,h.mM,h.known⟩,h.ext,hQ _ _ h.run⟩;by_cases hw: ∃i,iT l i=some t
  · obtain⟨i,hi⟩:=hw;have vo:=GK hi;refine⟨?_,h.s2 i (jz i vo) (fB i vo) t hi x hx⟩;obtain⟨o,ho⟩: ∃o,l[i]? =some o:=⟨_,dR vo⟩;have h2:=(pA.1 hp.Kb) o (gT ho);rw[gW ho]at hi;rw[hi]at h2;rw[h.size];simpa[ng]using h2
  · rw[h.e0 t λi _ hi=>hw ⟨i,hi⟩]at hx;obtain⟨q1,q2⟩:=h.s1 t x hx λi _ hi=>hw ⟨i,hi⟩;exact⟨by rw[h.size];exact q1,q2⟩
 have rdy:=Mh hl;have GL:=Ke hl hp;intro qk
 induction qk with
 |zero=>
  intro listed ds σ tr bX s a w G eG hf h hn hX;have jz: ∀i,i<l.length->listed.getD i false=true:=λi hi=>by
    apply Classical.byContradiction;intro hq;have:0<((List.range l.length).filter λi=>!listed.getD i false).length:=ZK (nT.2 ⟨Cg.2 hi,by simpa using hq⟩);omega
  refine⟨?_,fin listed ds σ tr bX s a w G eG h hn jz⟩;cases hr:Region.ready .any ops listed with
  |nil=>rfl
  |cons i r=>
    obtain⟨q1,q2,_⟩:=rdy listed i eG (by rw[hr];simp);rw[jz i q1]at q2;cases q2
 |succ qk ih=>
  intro listed ds σ tr bX s a w G eG hf h hn hX;refine⟨λhr=>fin listed ds σ tr bX s a w G eG h hn (GL listed eG hr),λi hi=>?_⟩;obtain⟨vo,Ll,WE⟩:=rdy listed i eG hi;obtain⟨o,ho⟩: ∃o,l[i]? =some o:=⟨_,dR vo⟩;have WD:ops[i]? =some o:=by rw[<-ho,<-hl];simp
  have rG: ¬listed.getD i false=true:=by rw[Ll];simp
  have kO: ∀p∈iS pre i,listed.getD p false=true:=λp oH=>by
    obtain⟨_,h2⟩:=hp.L8 i (Cg.2 vo) o ho;rcases(h2 p oH).2 with hd|⟨d,hd,PP⟩
    ·exact WE o ho p hd
    ·exact h.closed d (WE o ho d hd) p PP
  have AU:(listed.setIfInBounds i true).size=l.length:=by simpa using eG
  have gl:i<listed.size:=by omega
  have hE: ∀j,(listed.setIfInBounds i true).getD j false=true↔listed.getD j false=true\/j=i:=λj=>by
    simp only[wx,Array.getElem?_setIfInBounds];by_cases hj:i=j
    ·subst hj;simp[gl]
    ·rw[dY hj];constructor
     ·exact .inl
     ·rintro(h|h)
      · exact h
      · exact absurd h.symm hj
  have Eh:((List.range l.length).filter λj=>!(listed.setIfInBounds i true).getD j false).length<=qk:=by
    have:=Iy (p:=λj=>!listed.getD j false) (q:=λj=>!(listed.setIfInBounds i true).getD j false) (l:=List.range l.length) (λj _ hq=>by
     simp only[qn]at hq |-
     cases hb:listed.getD j false with
     |false=>rfl
     |true=>rw[(hE j).2 (.inl hb)]at hq;cases hq) (Cg.2 vo) (by simp[Ll]) (by simp[(hE i).2 (.inr rfl)])
    omega
  have go: ∀{ds' σ':List Step}{AY:List (Nat×Env×AV)}{env':Env}{s':St}{a':Act}{w':World}{G':cx},
     qj P N ρ l pre cu K iD G0 s0 w0 (λj=>(listed.setIfInBounds i true).getD j false=true) ds' σ' AY env' s' a' w' G'->wpAnyIn (vx ro) 0 P .any ops (iy G0 N ρ s0 w0 Q) qk (listed.setIfInBounds i true) a' w':=by
    intro ds' σ' AY env' s' a' w' G' h';obtain⟨ds2,σ2,tr2,vy,s2,G2,h2,SM⟩:=YD hp h0 σ' h';exact ih _ ds2 σ2 tr2 vy s2 a' w' G2 AU Eh h2 SM λx y Ix=>(hE x).2 (.inl (hX x y Ix))
  simp only[wpOpIn,WD];have lX:=gW ho;by_cases fB:i∈jM ds
  ·
    have PP: ∀p∈iS pre i,p∈jM ds:=kV hp h.split fB;obtain⟨o',q1,vG,q3⟩:=h.Kc i fB rG;rw[ho]at q1;cases q1;rcases q3 with⟨hg,e,v,p1,p2,p3,_⟩|⟨hg,p1⟩
    ·rw[dP (rH hl hp h hg kO PP rG)];have hve:jx G e a.tmps:=λt x hx=>by
      obtain⟨r1,r2⟩:=Cz hp h (p1 t x hx) kO PP rG;exact⟨by rw[h.size];exact r1,r2⟩
     obtain⟨nx,u,G',w',e1,e2,e3,e4,e5⟩:=vD h.jd hve o p2;refine⟨λ_ _=>trivial,?_⟩;rw[Oper.semAt_eq _ _ _ (λc=>by intro e;rw[e]at vG;simp[gu]at vG),e1];have vq:=yJ hp h0 h ho fB rG kO (v:=u) (λt ht x hx=>by rw[p3 t ht]at hx;cases hx;exact e3) e4 e5 hE;rcases e2 with rfl|⟨rfl,rfl⟩
     ·rw[Oper.uponIn_value];exact go vq
     ·rw[Oper.uponIn_skip];exact go vq
    ·rw[dY (by rw[rH hl hp h hg kO PP rG];simp)];exact⟨λ_ _=>trivial,go (yJ hp h0 h ho fB rG kO (λt ht x hx=>by rw[p1 t ht]at hx;cases hx;exact .eC [] #[] rfl (by simp)) h.jd (.refl _ _ _) hE)⟩
  ·
    have CB:i∈cu.map Step.idx:=hp.perm.2.1 i (Cg.2 vo);rw[h.split,Cf,lT]at CB;rcases CB with CB|CB
    ·exact absurd CB fB
    ·cases σ with
     |nil=>cases CB
     |cons st r=>
      obtain⟨hw,WG⟩:=hn st r rfl;by_cases his:i=st.idx
      · subst his;exact Kd hl hp h0 ro h hw ho rG kO fB hE go
      ·
        have hir:i∈r.map Step.idx:=by
         rcases mZ.1 CB with h|h
         ·exact absurd h his
         ·exact h
        obtain⟨st2,GM,rfl⟩:=kl.1 hir;have hk:cu[ds.length]? =some st:=by rw[h.split];simp
        have hws:=hp.waits ds.length (by rw[Cg,h.split];simp) st hk hw st2 (by rw[h.split];simpa using GM);rcases hws with ha|hpr|xG
        ·cases st2 with
         |iQ _ _=>cases ha
         |iI _ _=>cases ha
         |alloc i=>
          simp only[Step.idx]at *;have kM:Step.alloc i∈cu:=by rw[h.split];simp[GM]
          obtain⟨k1,k2,k3⟩:=hp.kinds _ kM o ho;rw[dP (by simp[Region.wanted,k2])];obtain⟨t,ht⟩:=Bp.1 k3;cases yB:o.op with
          |alloc ty=>
           rw[yB]at k1;simp only at k1;obtain⟨z,hz⟩:=Bp.1 k1;obtain⟨zv,Pe,LX⟩:=kw (Cj hz) w G;have Bt:=VL.cells LX (CC (Cj hz));obtain⟨g1,g2⟩:=h.jd.grow (.cells zv.cells ty);refine⟨λ_ _=>trivial,?_⟩;have WH:(execOp a.eval o).run P w=.ok (.value (.pointer (some ⟨w.heap.size,0,none⟩))) (w.alloc (.cells zv.cells ty)):=by
            simp[execOp,yB,Instr.alloc,Pe,newVar,newRow]
           rw[Oper.semAt_eq _ _ _ (λc=>by rw[yB];simp),WH,Oper.uponIn_value];have Rk:t<a.tmps.size:=by
            have h2:=(pA.1 hp.Kb) o (gT ho);rw[ht]at h2;rw[h.size];simpa[ng]using h2
           refine go (ds':=ds) (σ':=st::r) (AY:=tr) (env':=bX) (s':=s) (G':=G) ⟨h.split,h.run,g1,h.ext.trans h0 g2,by rw[yI];exact h.size,by rw[qH];exact h.mM,h.known,λj hj=>?_,λj hj p oH=>?_,λj hj=>?_,λst3 iA hw=>(hE _).2 (.inl (h.wait st3 iA hw)),λt' x xG Wl=>?_,λj hj tT t' AF x xG=>?_,h.e0,λj hj Gi=>?_,λi1 j1 h1 h2 h3 h4 oI t1 t2 d1 d2=>?_⟩
           ·rcases(hE j).1 hj with hj|rfl
            ·exact h.lt j hj
            ·exact vo
           ·rcases(hE j).1 hj with hj|rfl
            ·exact(hE p).2 (.inl (h.closed j hj p oH))
            ·exact(hE p).2 (.inl (kO p oH))
           ·rcases(hE j).1 hj with hj|rfl
            ·rcases h.sub j hj with hd|⟨hd,he⟩
             ·exact .inl hd
             ·refine .inr ⟨hd,he.later h.jd g2 λt' AF=>(jo λe=>?_).2⟩;have:=ib hp (by rw[lX];exact e) AF;subst this;exact rG hj
            ·refine .inr ⟨by simp[GM],o,t,ty,z,w.heap.size,zv.cells,ty,ho,yB,ht,hz,?_,?_,Bt,?_,λj=>?_,h.ext.size⟩
             ·rw[ht];exact(lO Rk).2
             ·show(w.heap.push _)[w.heap.size]? =_;simp
             ·rintro⟨id,blk,r',q1,q2,q3⟩;have:=h.jd.jy q1 q2;omega
             ·cases hj:G.ir w.heap.size j with
              |none=>rfl
              |some u=>have:=h.jd.pB hj;omega
           ·have h1:o.dst≠some t':=λe=>Wl i ((hE i).2 (.inr rfl)) (by rw[lX];exact e);rw[(jo h1).1];exact h.s1 t' x xG λj hj=>Wl j ((hE j).2 (.inl hj))
           ·rcases(hE j).1 hj with hj|rfl
            ·have h1:o.dst≠some t':=λe=>by
              have:=ib hp (by rw[lX];exact e) AF;subst this;exact rG hj
             rw[(jo h1).1];exact h.s2 j hj tT t' AF x xG
            ·exact absurd tT fB
           ·exact h.Kc j hj λe=>Gi ((hE j).2 (.inl e))
           ·have hit:iT l i=some t:=by rw[lX];exact ht
            have xm:(a.put o.dst (.pointer (some ⟨w.heap.size,0,none⟩))).tmps[t]? =some (.pointer (some ⟨w.heap.size,0,none⟩)):=by rw[ht];exact(lO Rk).2
            have qq: ∀{k tk},listed.getD k false=true->Step.alloc k∈st::r->iT l k=some tk->(a.put o.dst (.pointer (some ⟨w.heap.size,0,none⟩))).tmps[tk]? =a.tmps[tk]?/\a.tmps[tk]?≠some (.pointer (some ⟨w.heap.size,0,none⟩)):=λ{k tk}hk Me Mf=>by
             refine⟨(jo λe=>?_).2,?_⟩
             ·have:=ib hp (by rw[lX];exact e) Mf;subst this;exact rG hk
             ·rcases h.sub k hk with hd|⟨_,he⟩
              ·exact absurd hd (kB hp h.split Me)
              ·obtain⟨ok,tk',tyk,zk,bk,csk,ek,k1,k2,k3,k4,k5,k6,_⟩:=he;have:tk'=tk:=by rw[gW k1,k3]at Mf;exact Option.some.inj Mf
               subst this;rw[k5];intro e;cases e;rw[ZL (eD _)]at k6;cases k6
            rcases(hE i1).1 h1 with g1|g1<;>rcases(hE j1).1 h2 with g2|g2
            ·rw[(qq g1 h3 d1).1,(qq g2 h4 d2).1];exact h.Em i1 j1 g1 g2 h3 h4 oI t1 t2 d1 d2
            ·subst g2;rw[hit]at d2;cases d2;rw[(qq g1 h3 d1).1,xm];exact(qq g1 h3 d1).2
            ·subst g1;rw[hit]at d1;cases d1;rw[(qq g2 h4 d2).1,xm];exactλe=>(qq g2 h4 d2).2 e.symm
            ·exact absurd (g1.trans g2.symm) oI
          |_=>rw[yB]at k1;exact k1.elim
        ·exact absurd (kO _ hpr) WG
        ·exact absurd (hX _ _ xG) WG
theorem Mi{id:Nat}{ops:Array Oper}{Q:Exit->Env->St->Prop}{bX:Env}{s:St}(pre:List (List Nat))(cu:List Step)(l:List Oper)(hl:ops.toList=l)(hm:P.follows .mixedOrders=true)(hp:Mb P N l pre cu)
  (h:AJ P l (λbX s=>Q .normal bX s) cu [] bX s):mu P N ρ (.region id ops true) Q bX s:=λG w a hn=>by
 refine wpIn_region_any hm ?_;have eG:ops.size=l.length:=by rw[<-hl];simp
 have hd:qj P N ρ l pre cu (λbX s=>Q .normal bX s) bX G s w (λi=>(Array.replicate ops.size false).getD i false=true) [] cu [] bX s a {w with drawn:=w.drawn+1} G:=by
  have jT: ∀i,¬(Array.replicate ops.size false).getD i false=true:=λi=>by
   simp only[wx,Array.getElem?_replicate];split<;>simp
  exact⟨rfl,h,hn.jd.drew,Ext.drew G s w,hn.size,hn.mM,hn.known,λi hi=>absurd hi (jT i),λi hi=>absurd hi (jT i),λi hi=>absurd hi (jT i),(λst iA=>by cases iA),
   (λt x hx _=>by have:=hn.bX t x hx;rw[hn.size]at this;exact this),λi hi=>absurd hi (jT i),λt _=>rfl,(λi hi=>by cases hi),λi _ hi=>absurd hi (jT i)⟩
 obtain⟨ds',σ',AY,env',s',G',h',mU⟩:=YD hp hn.jd cu hd;exact Kf hl hp hn.jd (λ_ _ h=>h) _ ops.size _ ds' σ' AY env' s' a _ G' (by simp[eG]) (by rw[eG];exact xz (tQ _ _) (by simp)) h' mU λ_ _ h=>h.elim
end
end Go.Am
end
section
namespace Go.Am
open Go.RowKit
theorem eQ.WI{G G':cx}{s s':St}{w w':World}{id:Nat}{blk:gU}(h:eQ G ⟨(id,blk)::s.heap,s.cr⟩ w)(hid:id<s.cr)(jT:bJ s.heap id=none)
  (h':eQ G' s' w') (x:Ext G s w G' s' w'):eQ G' ⟨(id,blk)::s'.heap,s'.cr⟩ w'/\Ext G ⟨(id,blk)::s.heap,s.cr⟩ w G' ⟨(id,blk)::s'.heap,s'.cr⟩ w':=by
 have aba:bJ s'.heap id=none:=by
  cases hq:bJ s'.heap id with
  |none=>rfl
  |some b=>
   rcases x.ids id b hq with⟨b0,e⟩|e
   ·rw[jT]at e;cases e
   ·omega
 have wK:bJ ((id,blk)::s.heap) id=some blk:=by simp[di,cZ]
 rcases h.heap id blk wK with⟨r,o,e1,e2,e3⟩|⟨en,em⟩
 case inr=>
  have jF: ∀{l:List (Nat×gU)}i b,bJ ((id,blk)::l) i=some b->(i=id/\b=blk)\/(i≠id/\bJ l i=some b):=λi b hg=>by
   simp only[di,cZ]at hg;split at hg
   ·cases hg;exact .inl ⟨by omega,rfl⟩
   ·exact .inr ⟨by omega,hg⟩
  have up: ∀i b,bJ s.heap i=some b->bJ ((id,blk)::s.heap) i=some b:=λi b hg=>by
   have:id≠i:=λe=>by subst e;rw[jT]at hg;cases hg
   simp[di,cZ,this,hg]
  have YF:=x.stay id hid en;have yK: ∀b,mE G s b->mE G ⟨(id,blk)::s.heap,s.cr⟩ b:=λb ⟨i,b',r',g1,g2,g3⟩=>⟨i,b',r',up i b' g1,g2,g3⟩;refine⟨⟨h'.kS,?_,?_,?_,h'.cE,?_⟩,⟨x.le,x.os,x.tape,x.output,x.size,?_,?_,?_,?_,x.cr,?_,x.stay,x.drawn⟩⟩
  ·intro i b hg;rcases jF i b hg with⟨rfl,rfl⟩|⟨_,hg⟩
   ·exact .inr ⟨YF,em⟩
   ·exact h'.heap i b hg
  ·intro i i' b b' r1 r2 h1 h2 o1 o2 eU;rcases jF i b h1 with⟨rfl,rfl⟩|⟨n1,g1⟩<;>rcases jF i' b' h2 with⟨rfl,rfl⟩|⟨n2,g2⟩
   ·exact absurd rfl eU
   ·rw[YF]at o1;cases o1
   ·rw[YF]at o2;cases o2
   ·exact h'.apart i i' b b' r1 r2 g1 g2 o1 o2 eU
  ·intro i b r1 j hg ho;rcases jF i b hg with⟨rfl,rfl⟩|⟨_,hg⟩
   ·rw[YF]at ho;cases ho
   ·exact h'.clear i b r1 j hg ho
  ·intro i b hg;show i<s'.cr;rcases jF i b hg with⟨rfl,rfl⟩|⟨_,hg⟩
   ·exact Sr hid x.cr
   ·exact h'.lt i b hg
  ·intro b hb hn;exact x.keep b hb λe=>hn (yK b e)
  ·intro b o v hi;rcases x.jJ b o v hi with g|g|g
   ·exact .inl g
   ·exact .inr (.inl g)
   ·exact .inr (.inr (yK b g))
  ·intro i r' hi;rcases x.jj i r' hi with g|g|g
   ·exact .inl g
   ·exact .inr (.inl g)
   ·exact .inr (.inr (yK _ g))
  ·intro i b hg;rcases jF i b hg with⟨rfl,rfl⟩|⟨_,hg⟩
   ·exact .inl ⟨b,wK⟩
   ·rcases x.ids i b hg with⟨b0,g⟩|g
    ·exact .inl ⟨b0,up i b0 g⟩
    ·exact .inr g
  ·intro i hi;rcases jF i .gK hi with⟨rfl,hb⟩|⟨n,g⟩
   ·simp[di,cZ,<-hb]
   ·have:=x.gK i g;simp only[di,cZ];rw[dY (λe=>n e.symm)];exact this
 have gl:r.block<w.heap.size:=h.jy wK e1;have jF: ∀{l:List (Nat×gU)}i b,bJ ((id,blk)::l) i=some b->(i=id/\b=blk)\/(i≠id/\bJ l i=some b):=λi b hg=>by
  simp only[di,cZ]at hg;split at hg
  ·cases hg;exact .inl ⟨by omega,rfl⟩
  ·exact .inr ⟨by omega,hg⟩
 have up: ∀i b,bJ s.heap i=some b->bJ ((id,blk)::s.heap) i=some b:=λi b hg=>by
  have:id≠i:=λe=>by subst e;rw[jT]at hg;cases hg
  simp[di,cZ,this,hg]
 have CD: ¬mE G s r.block:=by
  rintro⟨i,b,r',g1,g2,g3⟩;have eU:i≠id:=λe=>by subst e;rw[jT]at g1;cases g1
  exact h.apart i id b blk r' r (up i b g1) wK g2 e1 eU g3
 have yK: ∀b,mE G s b->mE G ⟨(id,blk)::s.heap,s.cr⟩ b:=λb ⟨i,b',r',g1,g2,g3⟩=>⟨i,b',r',up i b' g1,g2,g3⟩;have Vo: ∀i b r',bJ s'.heap i=some b->G'.own i=some r'->r'.block≠r.block:=λi b r' g1 g2 e=>by
  rcases x.jj i r' g2 with g|g|g
  ·rcases x.ids i b g1 with⟨b0,g0⟩|g0
   ·exact CD ⟨i,b0,r',g0,g,e⟩
   ·have:=h.cE i g0;rw[this]at g;cases g
  ·omega
  ·rw[e]at g;exact CD g
 refine⟨⟨h'.kS,?_,?_,?_,h'.cE,?_⟩,⟨x.le,x.os,x.tape,x.output,x.size,?_,?_,?_,?_,x.cr,?_,x.stay,x.drawn⟩⟩
 ·intro i b hg;rcases jF i b hg with⟨rfl,rfl⟩|⟨_,hg⟩
  ·exact .inl ⟨r,o,x.le.own _ _ e1,by rw[x.keep _ gl CD];exact e2,e3.mono x.le⟩
  ·exact h'.heap i b hg
 ·intro i i' b b' r1 r2 h1 h2 o1 o2 eU;rcases jF i b h1 with⟨rfl,rfl⟩|⟨n1,g1⟩<;>rcases jF i' b' h2 with⟨rfl,rfl⟩|⟨n2,g2⟩
  ·exact absurd rfl eU
  ·rw[x.le.own _ _ e1]at o1;cases o1;exactλe=>Vo i' b' r2 g2 o2 e.symm
  ·rw[x.le.own _ _ e1]at o2;cases o2;exact Vo i b r1 g1 o1
  ·exact h'.apart i i' b b' r1 r2 g1 g2 o1 o2 eU
 ·intro i b r1 j hg ho;rcases jF i b hg with⟨rfl,rfl⟩|⟨_,hg⟩
  ·rw[x.le.own _ _ e1]at ho;cases ho;cases hq:G'.ir r.block j with
   |none=>rfl
   |some v=>
    rcases x.jJ _ _ _ hq with g|g|g
    ·rw[h.clear i b r j wK e1]at g;cases g
    ·omega
    ·exact absurd g CD
  ·exact h'.clear i b r1 j hg ho
 ·intro i b hg;show i<s'.cr;rcases jF i b hg with⟨rfl,rfl⟩|⟨_,hg⟩
  ·exact Sr hid x.cr
  ·exact h'.lt i b hg
 ·intro b hb hn;exact x.keep b hb λe=>hn (yK b e)
 ·intro b o v hi;rcases x.jJ b o v hi with g|g|g
  ·exact .inl g
  ·exact .inr (.inl g)
  ·exact .inr (.inr (yK b g))
 ·intro i r' hi;rcases x.jj i r' hi with g|g|g
  ·exact .inl g
  ·exact .inr (.inl g)
  ·exact .inr (.inr (yK _ g))
 ·intro i b hg;rcases jF i b hg with⟨rfl,rfl⟩|⟨_,hg⟩
  ·exact .inl ⟨b,wK⟩
  ·rcases x.ids i b hg with⟨b0,g⟩|g
   ·exact .inl ⟨b0,up i b0 g⟩
   ·exact .inr g
 ·intro i hi;rcases jF i .gK hi with⟨rfl,hb⟩|⟨n,g⟩
  ·simp[di,cZ,<-hb]
  ·have:=x.gK i g;simp only[di,cZ];rw[dY (λe=>n e.symm)];exact this
def iU:List Tmp->List AV->Env->Env
 |t::ts,x::xs,bX=>iU ts xs (eF bX t x)
 |_,_,bX=>bX
def iB(s:St)(id:Nat)(l:wA):St:=⟨eF s.heap id (.loop l),s.cr⟩
section
variable {P:Program} {N:Nat} {ρ:Option Nat} {Q:Exit->Env->St->Prop} {bX:Env} {s:St}
theorem jx.set{G:cx}{tmps:Array Value}(h:jx G bX tmps){t:Nat}{x:AV}{v:Value}(ht:t<tmps.size)(hv:V G x v):jx G (eF bX t x) (tmps.setIfInBounds t v):=λu y hy=>by
 rw[ff]at hy;split at hy
 ·rename_i he;subst he;cases hy;exact⟨by simpa using ht,by simp[wx,ht];exact hv⟩
 ·rename_i he;obtain⟨e1,e2⟩:=h u y hy;refine⟨by simpa using e1,?_⟩;rw[wx,VX he,<-wx];exact e2
theorem jx.params{G:cx}: ∀(ts:List Tmp)(xs:List AV)(vs:List Value)(bX:Env)(tmps:Array Value),jx G bX tmps->(∀t∈ts,t<tmps.size)->xs.length=vs.length->
  (∀(i:Nat)x y,xs[i]? =some x->vs[i]? =some y->V G x y)->jx G (iU ts xs bX) ((ts.zip vs).foldl (λtmps(t,a)=>tmps.setIfInBounds t a) tmps)
 | [],xs,vs,bX,tmps,h,_,_,_=>by simpa[iU]using h
 |t::ts,[],[],bX,tmps,h,_,_,_=>by simpa[iU]using h
 |t::ts,x::xs,v::vs,bX,tmps,h,ht,hl,hv=>by
  simp only[iU,List.zip_cons_cons,Sz];refine jx.params ts xs vs _ _ (h.set (ht t (by simp)) (hv 0 x v rfl rfl)) (λu hu=>by simpa using ht u (by simp[hu])) (by simpa using hl) (λi a b ha hb=>hv (i+1) a b (by simpa using ha) (by simpa using hb))
 |t::ts,x::xs,[],bX,tmps,h,_,hl,_=>by simp at hl
 |t::ts,[],v::vs,bX,tmps,h,_,hl,_=>by simp at hl
theorem wL: ∀(ts:List Tmp)(vs:List Value)(tmps:Array Value),((ts.zip vs).foldl (λtmps(t,a)=>tmps.setIfInBounds t a) tmps).size=tmps.size
 | [],vs,tmps=>by simp
 |t::ts,[],tmps=>by simp
 |t::ts,v::vs,tmps=>by simp only[List.zip_cons_cons,Sz];rw[wL ts vs];simp
def qI(id:Nat)(Q:AV->St->Prop):Exit->Env->St->Prop
 |.normal,_,s=> ∃l,bJ s.heap id=some (.loop l)/\Q (.bool true) (iB s id {l with state:=.ready,pending:=none})
 |.ret,_,s=> ∃l,bJ s.heap id=some (.loop l)/\Q (.bool false) (iB s id {l with state:=.done,pending:=some .ret})
 |.exit i,_,s=> ∃l,bJ s.heap id=some (.loop l)/\Q (.bool false) (iB s id {l with state:=.done,pending:=some (.exit i)})
 |_,_,_=>False
theorem rI{G:cx}{w:World}(h:eQ G s w){id:Nat}{l:wA}{r:ua}(hg:bJ s.heap id=some (.loop l))(ho:G.own id=some r):
  ∃fn tmps d,w.heap[r.block]? =some (.loop {state:=l.state,pending:=l.pending,fn:=fn,tmps:=tmps,params:=l.params.toArray,assign:=l.assign,body:=l.body,defers:=d})/\tmps.size=l.ntmps/\jx G l.bX tmps:=by
 obtain⟨o,e2,e3⟩:=h.at hg ho;cases e3 with
 |loop _ fn tmps d eG hV=>exact⟨fn,tmps,d,e2,eG,hV⟩
theorem rJ{G:cx}{w:World}(h:eQ G s w){id:Nat}{l l':wA}{r:ua}{fn:FuncId}{tmps:Array Value}{d:Nat}(hg:bJ s.heap id=some (.loop l))(ho:G.own id=some r)
  (hw:w.heap[r.block]? =some (.loop {state:=l.state,pending:=l.pending,fn:=fn,tmps:=tmps,params:=l.params.toArray,assign:=l.assign,body:=l.body,defers:=d}))
  (eG:tmps.size=l.ntmps) (hV:jx G l.bX tmps) (hl:l'={l with state:=l'.state,pending:=l'.pending}):
  eQ G (iB s id l') (w.putObj r.block (.loop {state:=l'.state,pending:=l'.pending,fn:=fn,tmps:=tmps,params:=l.params.toArray,assign:=l.assign,body:=l.body,defers:=d}))/\
  Ext G s w G (iB s id l') (w.putObj r.block (.loop {state:=l'.state,pending:=l'.pending,fn:=fn,tmps:=tmps,params:=l.params.toArray,assign:=l.assign,body:=l.body,defers:=d})):=by
 refine h.turn (o:=.loop {state:=l'.state,pending:=l'.pending,fn:=fn,tmps:=tmps,params:=l.params.toArray,assign:=l.assign,body:=l.body,defers:=d}) hg ho (by simp) rfl rfl rfl
  (λb hb=>World.putObj_heap_other hb) (World.putObj_heap_same (Rc.1 hw).1) ?_ (by simp)
 rw[hl];exact .loop _ fn tmps d eG hV
theorem SS{id:Nat}{args:List AV}{K:AV->St->Prop}{l:wA}(hg:bJ s.heap id=some (.loop l))(dJ:args.length=l.params.length)(Kg:(l.params.all λt=>decide (t<l.ntmps))=true)
  (h:mu P l.ntmps (some id) l.assign (SE (λSU s1=> ∃l1,bJ s1.heap id=some (.loop l1)/\l1.state=.ready/\
   mu P l.ntmps (some id) l.body (qI id K) SU (iB s1 id {l1 with state:=.busy})) (λ_ _ _=>False)) (iU l.params args l.bX) s):jk P id args s K:=by
 intro o G w r vs hs ho hv;obtain⟨fn,tmps,d,hw,eG,hV⟩:=rI hs hg ho;refine⟨fn,_,l.assign,l.body,run_yield hw (by have:=hv.1;simp;omega),roundIn_of_wpIn trivial ?_⟩;have SV:wD G (some id):=λi e=>by cases e;exact⟨r,ho⟩
 have WJ:xd G (some id)=some r.block:=by simp[xd,ho]
 have WK:((l.params.toArray.zip vs).foldl (λtmps(t,a)=>tmps.setIfInBounds t a) tmps)=((l.params.zip vs.toList).foldl (λtmps(t,a)=>tmps.setIfInBounds t a) tmps):=by
  rw[<-Array.foldl_toList,Array.toList_zip]
 have WL: ∀t∈l.params,t<l.ntmps:=λt ht=>by simpa using pA.1 Kg t ht
 have J9:xF G l.ntmps (some id) (iU l.params args l.bX) s {tmps:=(l.params.toArray.zip vs).foldl (λtmps(t,a)=>tmps.setIfInBounds t a) tmps,defers:=[]} w:=by
  rw[WK];exact⟨hs,hV.params l.params args vs.toList l.bX tmps (λt ht=>by rw[eG];exact WL t ht) (by simpa using hv.1) (λi x y hx hy=>hv.2 i x y hx (by simpa using hy)),by rw[wL,eG],trivial,SV⟩
 have h1:=h G w _ J9;rw[WJ]at h1;refine wpIn_mono h1 ?_;rintro e a1 w1 ⟨G1,SU,s1,n1,x1,q1⟩;cases e with
 |normal=>
  obtain⟨l1,g1,hr1,hb⟩:=q1;have SX:=x1.le.own _ _ ho;obtain⟨fn1,aa6,d1,GN,aal,hV1⟩:=rI n1.jd g1 SX;obtain⟨t1,t2⟩:=rJ n1.jd (l':={l1 with state:=.busy}) g1 SX GN aal hV1 rfl;refine⟨_,run_beginRound GN hr1,?_⟩;have n2:xF G1 l.ntmps (some id) SU (iB s1 id {l1 with state:=.busy}) a1 _:=⟨t1,n1.bX,n1.size,n1.mM.ext t2,n1.known⟩;have h2:=hb G1 _ a1 n2;have SY:xd G1 (some id)=some r.block:=by simp[xd,SX]
  rw[SY]at h2;refine wpIn_mono h2 ?_;rintro e a3 w3 ⟨G3,PQ,s3,n3,x3,q3⟩;have ho3:=x3.le.own _ _ SX;have x03:=(x1.trans hs t2).trans hs x3;have fin: ∀(jump:Option Code)(l3:wA)(g3:bJ s3.heap id=some (.loop l3)),K (.bool jump.isNone) (iB s3 id {l3 with state:=if jump.isNone then .ready else .done,pending:=jump})->
    ∃v w',(Instr.endRound r.block jump).run P w3=.ok v w'/\xe G s w K (.returned v) w':=by
   intro jump l3 g3 hk;obtain⟨YG,Iz,d3,Ru,Mj,hV3⟩:=rI n3.jd g3 ho3;obtain⟨u1,u2⟩:=rJ n3.jd (l':={l3 with state:=if jump.isNone then .ready else .done,pending:=jump}) g3 ho3 Ru Mj hV3 rfl;exact⟨_,_,run_endRound jump Ru,.bool jump.isNone,G3,_,_,rfl,.bool _,u1,x03.trans hs u2,hk⟩
  cases e with
  |normal=>obtain⟨l3,g3,hk⟩:=q3;exact fin none l3 g3 hk
  |ret=>obtain⟨l3,g3,hk⟩:=q3;exact fin (some .ret) l3 g3 hk
  |exit i=>obtain⟨l3,g3,hk⟩:=q3;exact fin (some (.exit i)) l3 g3 hk
  |goto t=>exact q3.elim
  |panic ch=>exact q3.elim
  |outgrown=>exact q3.elim
 |exit id=>exact q1.elim
 |goto t=>exact q1.elim
 |ret=>exact q1.elim
 |panic ch=>exact q1.elim
 |outgrown=>exact q1.elim
theorem IA{G:cx}{w:World}(h:eQ G s w): ∀{ds:List Deferred},pE G s ds-> ∀d∈ds,∀b,d.target=.collected b->b<w.heap.size
 | [],_,d,hd,_,_=>by cases hd
 |e::ds,⟨⟨id,r,a,b,c,_⟩,hr⟩,d,hd,x,hx=>by
  rcases mZ.1 hd with rfl|hd
  ·rw[c]at hx;cases hx;exact h.jy a b
  ·exact IA h hr d hd x hx
def CE(P:Program)(N:Nat)(ρ:Option Nat)(Q:Exit->Env->St->Prop)(bX:Env)(id:Nat)(marks:List (Nat×gU))(s:St):Prop:=
 ∃l,bJ s.heap id=some (.loop l)/\l.state≠ .busy/\(match l.pending with
  |none=>Q .normal bX ⟨marks++eN s.heap id,s.cr⟩
  |some c=>mu P N ρ c Q bX ⟨marks++eN s.heap id,s.cr⟩)
theorem Mk{g:Nat}(he:enters P g=true): ∀(args:Array Value)(w:World),(callFunc g args).run P w=.ok (.enter g args) w:=λargs w=>by
 unfold enters at he;split at he
 case h_2=>cases he
 rename_i fn LS;simp only[fE,bne_iff_ne,rz]at he;have L4: ¬fn.body=none:=by cases hb:fn.body<;>simp[hb]at he |-
 simp[callFunc,LS,he.1,L4]
theorem AZ{g:Operand}{ps:Array Tmp}{assign body:Code}{gf:FuncId}{gk:List AV}(hg:oper bX g=some (.fn gf gk))(he:enters P gf=true)
  (h:dQ P gf (.lf (s.cr+1)::gk) ⟨(s.cr+1,.loop ⟨bX,N,ps.toList,assign,body,.ready,none⟩)::s.heap,s.cr+2⟩
   (λ_ s'=>CE P N none Q bX (s.cr+1) [(s.cr,.gK)] s')):mu P N none (.rangeFunc g ps assign body) Q bX s:=λG w a hn=>by
 refine wpIn_rangeFunc λfn _=>?_;have Ir:=fe hn.bX hg;generalize hq:a.eval g=fv at Ir;cases Ir with
 |fn _ _ vs Lm Ka=>
  have hs:=hn.jd;have WM:bJ s.heap s.cr=none:=by
   cases hc:bJ s.heap s.cr with
   |none=>rfl
   |some b=>exact absurd (hs.lt _ _ hc) (by omega)
  obtain⟨p1,p2⟩:=hs.put (o:=.deferred (some [])) (blk:=.gK) (r:=⟨w.heap.size,0,0,0⟩) rfl .gK;have Rj:jx (cx.put G s.cr ⟨w.heap.size,0,0,0⟩) bX a.tmps:=hn.bX.mono p2.le;obtain⟨p3,p4⟩:=p1.put (o:=.loop {state:=.ready,pending:=none,fn:=fn,tmps:=a.tmps,params:=ps,assign:=assign,body:=body,defers:=w.heap.size})
   (blk:=.loop ⟨bX,N,ps.toList,assign,body,.ready,none⟩) (r:=⟨w.heap.size+1,0,0,0⟩) (by simp)
   (by
    have:=Holds.loop (G:=cx.put (cx.put G s.cr ⟨w.heap.size,0,0,0⟩) (s.cr+1) ⟨w.heap.size+1,0,0,0⟩) (r:=⟨w.heap.size+1,0,0,0⟩) ⟨bX,N,ps.toList,assign,body,.ready,none⟩ fn a.tmps w.heap.size hn.size (Rj.mono (.put (p1.cE _ (eD _))));simpa using this)
  generalize YH:cx.put (cx.put G s.cr ⟨w.heap.size,0,0,0⟩) (s.cr+1) ⟨w.heap.size+1,0,0,0⟩=G2 at p3 p4;have Ml:G2.own (s.cr+1)=some ⟨w.heap.size+1,0,0,0⟩:=by rw[<-YH];simp[cx.put]
  have aam:G2.own s.cr=some ⟨w.heap.size,0,0,0⟩:=by rw[<-YH];simp[cx.put]
  generalize Kh:(w.alloc (.deferred (some []))).alloc (.loop {state:=.ready,pending:=none,fn:=fn,tmps:=a.tmps,params:=ps,assign:=assign,body:=body,defers:=w.heap.size})=w2 at p3 p4;have x02:=p2.trans hs p4;have SZ: ∀i,bJ ((s.cr,gU.gK)::(s.cr+1,gU.loop ⟨bX,N,ps.toList,assign,body,.ready,none⟩)::s.heap) i=bJ ((s.cr+1,gU.loop ⟨bX,N,ps.toList,assign,body,.ready,none⟩)::(s.cr,gU.gK)::s.heap) i:=λi=>by
   simp only[di,cZ];by_cases h1:s.cr=i
   ·rw[dP h1,dY (by omega),dP h1]
   ·rw[dY h1,dY h1]
  have p5:eQ G2 ⟨(s.cr,.gK)::(s.cr+1,.loop ⟨bX,N,ps.toList,assign,body,.ready,none⟩)::s.heap,s.cr+2⟩ w2:=p3.drop (λi b hb=>by rw[<-SZ];exact hb) (eD _);have p6:eQ G2 ⟨(s.cr+1,.loop ⟨bX,N,ps.toList,assign,body,.ready,none⟩)::s.heap,s.cr+2⟩ w2:=p5.drop (λi b hb=>by
   simp only[di,cZ]at hb |-
   by_cases h1:s.cr=i
   ·subst h1;rw[dY (by omega),WM]at hb;cases hb
   ·rw[dY h1];exact hb) (eD _)
  have IB:(a.eval g)=.func (.func gf) #[] vs:=hq;refine⟨w.heap.size+1,[{target:=.collected w.heap.size,args:= #[]}],w2,{target:=.fn (.func gf) vs,args:= #[.func (.yield (w.heap.size+1)) #[] #[]]},w2,gf,
   #[.func (.yield (w.heap.size+1)) #[] #[]]++vs,w2,?_,?_,λ_ _=>trivial,?_,(λh=>by cases h),?_⟩
  ·rw[<-Kh];exact run_enterLoop_outer _ _ _ _ _
  ·simp only[resolve,IB];simp[go_sem]
  ·simp[invoke,go_sem,Mk he]
  ·have Mm:VL G2 (.lf (s.cr+1)::gk) (#[.func (.yield (w.heap.size+1)) #[] #[]]++vs):=by
    have l1:VL G2 [.lf (s.cr+1)] #[.func (.yield (w.heap.size+1)) #[] #[]]:=⟨rfl,λi x y hx hy=>by
     cases i with
     |zero=>simp at hx hy;subst hx;subst hy;exact .lf _ _ Ml
     |succ i=>simp at hx⟩
    exact l1.append (VL.mono x02.le ⟨Lm,Ka⟩)
   refine(qu (h G2 w2 _ p6 Mm)).mono ?_;rintro e w3 ⟨v,G3,x,s3,rfl,hV3,YI,Vp,l,g3,iA,qJ⟩;obtain⟨q1,q2⟩:=p5.WI (s:=⟨(s.cr+1,.loop ⟨bX,N,ps.toList,assign,body,.ready,none⟩)::s.heap,s.cr+2⟩) (by simp) (by simp[di,cZ,WM]) YI Vp;have Er:=Vp.le.own _ _ Ml;have S0:bJ ((s.cr,gU.gK)::s3.heap) (s.cr+1)=some (.loop l):=by simp[di,cZ,g3]
   obtain⟨YG,Iz,d3,Ru,Mj,S1⟩:=rI q1 S0 Er;obtain⟨u1,u2⟩:=rJ q1 (l':={l with state:=.exhausted}) S0 Er Ru Mj S1 rfl;have x05:Ext G2 ⟨(s.cr+1,.loop ⟨bX,N,ps.toList,assign,body,.ready,none⟩)::(s.cr,.gK)::s.heap,s.cr+2⟩ w2 G2 ⟨(s.cr,.gK)::(s.cr+1,.loop ⟨bX,N,ps.toList,assign,body,.ready,none⟩)::s.heap,s.cr+2⟩ w2:=
    Ext.drop (λi b hb=>by rw[<-SZ];exact hb) (eD _) (λi hi=>by rw[SZ];exact hi)
   have Es:Ext G s w G3 _ _:=((x02.trans hs x05).trans hs q2).trans hs u2;have Et: ∀i b,bJ ([(s.cr,gU.gK)]++eN s3.heap (s.cr+1)) i=some b->bJ (iB ⟨(s.cr,.gK)::s3.heap,s3.cr⟩ (s.cr+1) {l with state:=.exhausted}).heap i=some b:=λi b hb=>by
    simp only[yh,sA,di,cZ]at hb;simp only[iB,ff];by_cases h1:s.cr=i
    ·subst h1;rw[dY (by omega)];simpa[di,cZ]using hb
    ·rw[dY h1,fU]at hb;split at hb
     ·cases hb
     ·rename_i h2;rw[dY h2];simp only[di,cZ];rw[dY h1];exact hb
   have Eu: ∀i,bJ (iB ⟨(s.cr,.gK)::s3.heap,s3.cr⟩ (s.cr+1) {l with state:=.exhausted}).heap i=some .gK->bJ ([(s.cr,gU.gK)]++eN s3.heap (s.cr+1)) i=some .gK:=λi hi=>by
    simp only[iB,ff]at hi;split at hi
    ·cases hi
    ·rename_i h2;simp only[yh,sA,di,cZ]at hi |-
     split
     ·rfl
     ·rename_i h1;rw[dY h1]at hi;rw[fU,dY h2];exact hi
   have n4:xF G3 N none bX ⟨[(s.cr,.gK)]++eN s3.heap (s.cr+1),s3.cr⟩ {a with defers:={target:=.collected w.heap.size,args:= #[]}::a.defers} (w3.putObj (w.heap.size+1) (.loop {state:=.exhausted,pending:=l.pending,fn:=YG,tmps:=Iz,params:=l.params.toArray,assign:=l.assign,body:=l.body,defers:=d3})):=by
    refine⟨u1.drop Et (eD _),hn.bX.mono Es.le,hn.size,⟨⟨s.cr,⟨w.heap.size,0,0,0⟩,by simp[di,cZ],Vp.le.own _ _ aam,rfl,λd' vq b hb=>?_⟩,?_⟩,λi e=>by cases e⟩
    ·have:=IA hs hn.mM d' vq b hb;show b≠w.heap.size;omega
    ·exact(hn.mM.ext Es).drop Eu
   have CF:Ext G s w G3 ⟨[(s.cr,.gK)]++eN s3.heap (s.cr+1),s3.cr⟩ _:=Es.trans hs (Ext.drop Et (eD _) Eu);refine⟨l.pending,_,run_endLoop Ru iA,?_⟩;cases PR:l.pending with
   |none=>
    simp only[PR]at qJ;rw[PR]at n4 CF;exact⟨G3,bX,_,n4,CF,qJ⟩
   |some c=>
    simp only[PR]at qJ;rw[PR]at n4 CF;exact mu.later qJ hs hn.known CF n4
theorem yL{jf:Nat}{l0:wA}(PS:bJ s.heap jf=some (.loop l0)){g:Operand}{ps:Array Tmp}{assign body:Code}{gf:FuncId}{gk:List AV}(hg:oper bX g=some (.fn gf gk))(he:enters P gf=true)
  (h:dQ P gf (.lf s.cr::gk) ⟨(s.cr,.loop ⟨bX,N,ps.toList,assign,body,.ready,none⟩)::s.heap,s.cr+1⟩
   (λ_ s'=>CE P N (some jf) Q bX s.cr [] s')):mu P N (some jf) (.rangeFunc g ps assign body) Q bX s:=λG w a hn=>by
 refine wpIn_rangeFunc λfn _=>?_;have Ir:=fe hn.bX hg;generalize hq:a.eval g=fv at Ir;cases Ir with
 |fn _ _ vs Lm Ka=>
  have hs:=hn.jd;obtain⟨r0,hr0⟩:=hn.known jf rfl;obtain⟨fn0,aa7,d0,hw0,_,_⟩:=rI hs PS hr0;obtain⟨p3,p4⟩:=hs.put (o:=.loop {state:=.ready,pending:=none,fn:=fn,tmps:=a.tmps,params:=ps,assign:=assign,body:=body,defers:=d0})
   (blk:=.loop ⟨bX,N,ps.toList,assign,body,.ready,none⟩) (r:=⟨w.heap.size,0,0,0⟩) rfl
   (by
    have:=Holds.loop (G:=cx.put G s.cr ⟨w.heap.size,0,0,0⟩) (r:=⟨w.heap.size,0,0,0⟩) ⟨bX,N,ps.toList,assign,body,.ready,none⟩ fn a.tmps d0 hn.size (hn.bX.mono (.put (hs.cE _ (eD _))));simpa using this)
  generalize YH:cx.put G s.cr ⟨w.heap.size,0,0,0⟩=G2 at p3 p4;have Ml:G2.own s.cr=some ⟨w.heap.size,0,0,0⟩:=by rw[<-YH];simp[cx.put]
  generalize Kh:w.alloc (.loop {state:=.ready,pending:=none,fn:=fn,tmps:=a.tmps,params:=ps,assign:=assign,body:=body,defers:=d0})=w2 at p3 p4;have IB:(a.eval g)=.func (.func gf) #[] vs:=hq;refine⟨w.heap.size,[],w2,{target:=.fn (.func gf) vs,args:= #[.func (.yield w.heap.size) #[] #[]]},w2,gf,
   #[.func (.yield w.heap.size) #[] #[]]++vs,w2,?_,?_,λ_ _=>trivial,?_,(λh=>by cases h),?_⟩
  ·rw[<-Kh,show(vx (xd G (some jf))).round=some r0.block from by simp[vx,xd,hr0]];exact run_enterLoop_inner hw0 _ _ _ _ _
  ·simp only[resolve,IB];simp[go_sem]
  ·simp[invoke,go_sem,Mk he]
  ·have Mm:VL G2 (.lf s.cr::gk) (#[.func (.yield w.heap.size) #[] #[]]++vs):=by
    have l1:VL G2 [.lf s.cr] #[.func (.yield w.heap.size) #[] #[]]:=⟨rfl,λi x y hx hy=>by
     cases i with
     |zero=>simp at hx hy;subst hx;subst hy;exact .lf _ _ Ml
     |succ i=>simp at hx⟩
    exact l1.append (VL.mono p4.le ⟨Lm,Ka⟩)
   refine(qu (h G2 w2 _ p3 Mm)).mono ?_;rintro e w3 ⟨v,G3,x,s3,rfl,hV3,YI,Vp,l,g3,iA,qJ⟩;have Er:=Vp.le.own _ _ Ml;obtain⟨YG,Iz,d3,Ru,Mj,S1⟩:=rI YI g3 Er;obtain⟨u1,u2⟩:=rJ YI (l':={l with state:=.exhausted}) g3 Er Ru Mj S1 rfl;have Es:Ext G s w G3 _ _:=(p4.trans hs Vp).trans hs u2;have Et: ∀i b,bJ ([]++eN s3.heap s.cr) i=some b->bJ (iB s3 s.cr {l with state:=.exhausted}).heap i=some b:=λi b hb=>by
    simp only[sA,fU]at hb;simp only[iB,ff];split at hb
    ·cases hb
    ·rename_i h2;rw[dY h2];exact hb
   have Eu: ∀i,bJ (iB s3 s.cr {l with state:=.exhausted}).heap i=some .gK->bJ ([]++eN s3.heap s.cr) i=some .gK:=λi hi=>by
    simp only[iB,ff]at hi;split at hi
    ·cases hi
    ·rename_i h2;simp only[sA];rw[fU,dY h2];exact hi
   have CF:Ext G s w G3 ⟨[]++eN s3.heap s.cr,s3.cr⟩ _:=Es.trans hs (Ext.drop Et (eD _) Eu);have n4:xF G3 N (some jf) bX ⟨[]++eN s3.heap s.cr,s3.cr⟩ {a with defers:=[]++a.defers} (w3.putObj w.heap.size (.loop {state:=.exhausted,pending:=l.pending,fn:=YG,tmps:=Iz,params:=l.params.toArray,assign:=l.assign,body:=l.body,defers:=d3})):=
    ⟨u1.drop Et (eD _),hn.bX.mono Es.le,hn.size,by simpa using(hn.mM.ext Es).drop Eu,hn.known.le Es.le⟩
   refine⟨l.pending,_,run_endLoop Ru iA,?_⟩;cases PR:l.pending with
   |none=>
    simp only[PR]at qJ;rw[PR]at n4 CF;exact⟨G3,bX,_,n4,CF,qJ⟩
   |some c=>
    simp only[PR]at qJ;rw[PR]at n4 CF;exact mu.later qJ hs hn.known CF n4
end
end Go.Am
end
section
namespace Go.Am
open Go.RowKit
def yM(n:Nat)(p:Nat->Bool):Bool:=(List.range n).all p
def pM{α:Type}(o:Option α)(p:α->Bool):Bool:=match o with
 |some x=>p x
 |none=>true
theorem kq{α:Type}{o:Option α}{p:α->Bool}:pM o p=true↔ ∀x∈o,p x=true:=by
 cases o<;>simp[pM]
def jG(x:Nat)(l:List Nat):Bool:=l.any λy=>Nat.beq x y
theorem oO{x:Nat}{l:List Nat}:jG x l=true↔x∈l:=by
 simp only[jG,AO];constructor
 ·rintro⟨y,h1,h2⟩;rw[jn h2];exact h1
 ·intro h;exact⟨x,h,O0 x⟩
def S4(l:List Oper)(pre:List (List Nat)):Bool:=yM l.length λi=>pM l[i]? λo=>
 (direct o).all (λp=>decide (p<i))&&(iS pre i).all λp=>decide (p<i)&&(jG p (direct o)||(direct o).any λd=>jG p (iS pre d))
def Vq(a b:Option Nat):Bool:=match a,b with
 |some x,some y=>Nat.beq x y
 |_,_=>false
theorem Ev{a b:Option Nat}{t:Nat}(ha:a=some t)(hb:b=some t):Vq a b=true:=by subst ha;subst hb;exact O0 t
theorem PT{a b:Option Nat}:Vq a b=true-> ∃t,a=some t/\b=some t:=by
 unfold Vq;split
 ·rename_i x y;intro h;exact⟨x,rfl,by rw[jn h]⟩
 ·intro h;cases h
def WN(l:List Oper):Bool:=yM l.length λi=>yM l.length λj=>!(Vq (iT l i) (iT l j))||Nat.beq i j
def S5(l:List Oper)(pre:List (List Nat)):Bool:=yM l.length λi=>pM l[i]? λo=>(iR o++wI l o).all λt=>
 (iS pre i).any (λu=>Vq (iT l u) (some t))||yM l.length λu=>!(Vq (iT l u) (some t))||jG i (iS pre u)
def Rv(l:List Oper)(cu:List Step):Bool:=cu.all (λst=>decide (st.idx<l.length))&&yM l.length (λi=>jG i (cu.map Step.idx))&&decide (cu.map Step.idx).Nodup
def PU(pre:List (List Nat))(cu:List Step):Bool:=yM cu.length λk=>pM cu[k]? λst=>(iS pre st.idx).all λp=>jG p ((cu.take k).map Step.idx)
def xB(xs:List (Nat×Nat))(x y:Nat):Bool:=xs.any λp=>Nat.beq p.1 x&&Nat.beq p.2 y
def S6(xs:List (Nat×Nat))(pre:List (List Nat))(cu:List Step):Bool:=yM cu.length λk=>pM cu[k]? λst=>!st.waits||(cu.drop (k+1)).all λst2=>st2.Iv||jG st.idx (iS pre st2.idx)||xB xs st.idx st2.idx
def S7(P:Program)(l:List Oper)(cu:List Step):Bool:=cu.all λst=>pM l[st.idx]? λo=>match st with
 |.iQ _ _=>gu o.op
 |.iI _ _=>true
 |.alloc _=>(match o.op with|.alloc t=>(wB P t).isSome|_=>false)&&o.guard.isNone&&o.dst.isSome
def PV(l:List Oper)(pre:List (List Nat))(cu:List Step):Bool:=yM cu.length λk=>pM cu[k]? λst=>match st with
 |.iI h xk=>(cu.take k).all λst2=>match st2 with
  |.iQ j note=>pM l[j]? λo=>kA o.op||jG j (iS pre h)||(note&&jG j xk)
  |_=>true
 |_=>true
def GO(xs:List (Nat×Nat))(P:Program)(N:Nat)(l:List Oper)(pre:List (List Nat))(cu:List Step):Bool:=
 S4 l pre&&WN l&&qD N l&&oN l&&S5 l pre&&Rv l cu&&PU pre cu&&S6 xs pre cu&&S7 P l cu&&PV l pre cu
def Mn(P:Program)(N:Nat)(l:List Oper)(pre:List (List Nat))(cu:List Step):Bool:=GO [] P N l pre cu
theorem kW{n:Nat}{p:Nat->Bool}:yM n p=true↔ ∀i∈List.range n,p i=true:=by simp[yM,pA]
theorem Ki{xs:List (Nat×Nat)}{P:Program}{N:Nat}{l:List Oper}{pre:List (List Nat)}{cu:List Step}(h:GO xs P N l pre cu=true):il (λx y=>xB xs x y=true) P N l pre cu:=by
 simp only[GO,fE]at h;obtain⟨⟨⟨⟨⟨⟨⟨⟨⟨h1,h2⟩,h3⟩,h4⟩,h5⟩,h6⟩,h7⟩,h8⟩,h9⟩,Wv⟩:=h;refine⟨?_,?_,h3,h4,?_,?_,?_,?_,?_,?_⟩
 ·intro i hi o ho;have:=kq.1 (kW.1 h1 i hi) o ho;simp only[fE,pA,AE,tY,AO,oO]at this;exact⟨this.1,λp hp=>⟨(this.2 p hp).1,(this.2 p hp).2⟩⟩
 ·intro i hi j hj t ht Vm;have:=kW.1 (kW.1 h2 i hi) j hj;simp only[tY,qn]at this;rcases this with h|h
  ·rw[Ev (show iT l i=some t from ht) Vm]at h;cases h
  ·exact jn h
 ·intro i hi o ho t ht;have:=pA.1 (kq.1 (kW.1 h5 i hi) o ho) t ht;simp only[tY,AO]at this;rcases this with⟨u,hu,h⟩|h
  ·obtain⟨t',e1,e2⟩:=PT h;cases e2;exact .inl ⟨u,hu,e1⟩
  ·refine .inr λu hu hd=>?_;have:=kW.1 h u hu;simp only[tY,qn]at this;rcases this with g|g
   ·rw[Ev hd rfl]at g;cases g
   ·exact oO.1 g
 ·simp only[Rv,fE,pA,AE]at h6;exact⟨h6.1.1,λi hi=>oO.1 (kW.1 h6.1.2 i hi),h6.2⟩
 ·intro k hk st iA p hp;exact oO.1 (pA.1 (kq.1 (kW.1 h7 k hk) st iA) p hp)
 ·intro k hk st iA hw st2 GM;have:=kq.1 (kW.1 h8 k hk) st iA;simp only[hw,qc,Ii,pA,tY,fE,qn,oO]at this;rcases this st2 GM with(g|g)|g
  ·exact .inl g
  ·exact .inr (.inl g)
  ·exact .inr (.inr g)
 ·intro st iA o ho;have:=kq.1 (pA.1 h9 st iA) o ho;cases st with
  |iQ i n=>exact this
  |iI i c=>trivial
  |alloc i=>
   simp only[fE,Option.isNone_iff_eq_none]at this;refine⟨?_,this.1.2,this.2⟩;have h:=this.1.1;show(match o.op with|.alloc t=>(wB P t).isSome=true|_=>False);cases yB:o.op<;>simp only[yB]at h |- <;>first|exact h|(cases h;done)
 ·intro k hk st iA;have:=kq.1 (kW.1 Wv k hk) st iA;cases st with
  |iQ i n=>trivial
  |alloc i=>trivial
  |iI h xk=>
   intro st2 GM;have:=pA.1 this st2 GM;cases st2 with
   |iQ j note=>
    intro o ho;have:=kq.1 this o ho;simp only[tY,fE,oO]at this;rcases this with(h|h)|h
    ·exact .inl h
    ·exact .inr (.inl h)
    ·exact .inr (.inr h)
   |iI i c=>trivial
   |alloc i=>trivial
theorem Mo{P:Program}{N:Nat}{l:List Oper}{pre:List (List Nat)}{cu:List Step}(h:Mn P N l pre cu=true):Mb P N l pre cu:=
 let q:=Ki h
 ⟨q.L8,q.Wt,q.Kb,q.grd,q.reads,q.perm,q.L9,λk hk st iA hw st2 h2=>(q.waits k hk st iA hw st2 h2).imp id (Or.imp id λe=>by cases e),q.kinds,q.Ma⟩
end Go.Am
end
