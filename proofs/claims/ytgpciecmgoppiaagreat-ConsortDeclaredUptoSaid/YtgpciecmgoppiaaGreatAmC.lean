/- The logic AM, C: regions, functions, drawn regions, ranges over functions. -/
import Derived.Test.YtgpciecmgoppiaaGreatAmB
import Derived.RangeFuncNested
set_option linter.all false
section
namespace Go.Am
open Go.RowKit
section
variable {P:Program} {N:Nat} {ρ:Option Nat} {Q:Exit->Env->St->Prop} {bf:Env} {s:St} {G:bS} {a:Act} {w:World}
theorem wj.put{G':bS}{s':St}{w':World}{x:AV}{v:Value}{d:Option Nat}(h:wj G N ρ bf s a w)(hd:mY N d=true)(hv:V G' x v)(hs:eG G' s' w')(hx:Ext G s w G' s' w'):
  wj G' N ρ (eH d x bf) s' (a.put d v) w':=by
 refine⟨hs,?_,?_,?_,h.known.le hx.le⟩
 ·intro t y hy;cases d with
  |none=>exact(h.bf.mono hx.le) t y hy
  |some d=>
   simp only[mY,BW]at hd;have kc:d<a.tmps.size:=by rw[h.size];exact hd
   simp only[Go.Am.eH,eK]at hy;simp only[Act.put,Array.size_setIfInBounds];split at hy
   ·simp_all
   ·rename_i he;obtain⟨e1,e2⟩:=(h.bf.mono hx.le) t y hy;simp_all
 ·cases d<;>simp[Act.put,h.size]
 ·cases d<;>exact h.mr.ext hx
theorem Bb{op:Op}{f:Operand}{l:List Operand}(h:fW op=some (f,l)): ∃args ts,op=.call ⟨.value f,args,ts⟩/\l=args.toList:=by
 unfold fW at h
 grind
theorem vw{o:Oper}{K:AV->St->Prop}{next:Act->World->Prop}{R:Exit->Act->World->Prop}(h:Wy P o K bf s)(hn:wj G N ρ bf s a w)(ro:Option Nat)
  (hK: ∀v G' x s' w',V G' x v->eG G' s' w'->Ext G s w G' s' w'->K x s'->next (a.put o.dst v) w'):o.wpIn (tt ro) 0 P a w next R:=by
 refine⟨λ_ _=>trivial,?_⟩;unfold Wy at h;split at h
 ·rename_i f args hc;obtain⟨arr,ts,Dv,rfl⟩:=Bb hc;have yk:o.semAt (tt ro).round a.eval=execOp a.eval o:=Oper.semAt_eq _ _ _ (λc=>by grind);rw[yk];split at h
  ·rename_i g fi l hf hl;obtain⟨he,WQ⟩:=h;have Ip:=eJ hn.bf hf;have Iq:=tH hn.bf hl;generalize hq:a.eval f=fv at Ip;cases Ip with
   |fn _ _ vs h1 h2=>
    unfold enters at he;split at he
    case h_2=>cases he
    rename_i fn Qf;simp only[eU,bne_iff_ne,qd]at he;have Mt: ¬fn.body=none:=by grind
    have fP:(execOp a.eval o).run P w=.ok (.enter g (arr.map a.eval++vs)) w:=by
     simp[execOp,Dv,resolve,Deferred.ofValue,hq,invoke,callFunc,Qf,he.1,Mt]
    rw[fP,Oper.uponIn_enter];refine⟨(λh=>by cases h),?_⟩;exact(qh (WQ G w _ hn.iB (Iq.append ⟨h1,h2⟩))).mono λe w' ⟨v,G',x,s',e1,e2,e3,e4,e5⟩=>by grind
  ·rename_i id l hf hl;have Ip:=eJ hn.bf hf;have Iq:=tH hn.bf hl;generalize hq:a.eval f=fv at Ip;cases Ip with
   |kK _ r ho=>
    obtain⟨fn,tmps,assign,body,y1,y2⟩:=h ro G w r _ hn.iB ho Iq;have fP:(execOp a.eval o).run P w=.ok (.round r.block fn tmps assign body) w:=by
     simp[execOp,Dv,resolve,Deferred.ofValue,hq,invoke,y1]
    rw[fP,Oper.uponIn_round];refine⟨(λh=>by cases h),?_⟩;exact y2.mono λe w' ⟨v,G',x,s',e1,e2,e3,e4,e5⟩=>by grind
  ·cases h
 ·split at h
  case h_2=>cases h
  rename_i x s' hx;have yk:o.semAt (tt ro).round a.eval=execOp a.eval o:=Oper.semAt_eq _ _ _ (λc=>by
   intro e;rw[e]at hx;simp[gH]at hx)
  rw[yk];obtain⟨nx,v,G',w',e1,e2,e3,e4,e5⟩:=rm hn.iB hn.bf o hx
  grind [Oper.uponIn_value,Oper.uponIn_skip]
theorem Kl{ops:Array Oper}{o:Oper}{A B:Prop}(h:YY ops o bf A B)(hv:iL G bf a.tmps):
  (Region.wanted o (yielded ops a.tmps)=true/\A)\/(Region.wanted o (yielded ops a.tmps)=false/\B):=by
 unfold YY at h;unfold Region.wanted;split at h
 ·grind
 ·rename_i j want hg;split at h
  case h_2=>cases h
  rename_i d hd;split at h
  ·rename_i b hb;obtain⟨e1,e2⟩:=hv d _ hb;have hy:yielded ops a.tmps j=some b:=by
    unfold yielded;rw[hd];simp only[cN];rw[Pz,RV e1,J1]at e2;rw[RV e1];generalize a.tmps[d]=v at e2;cases e2;rfl
   rw[hg];simp only[hy];by_cases Tr:b=want
   ·grind
   ·exact .inr ⟨by simp[Tr],h.2 (by cases b<;>cases want<;>simp_all)⟩
  ·rename_i hb;obtain⟨e1,e2⟩:=hv d _ hb;have hy:yielded ops a.tmps j=none:=by
    unfold yielded;rw[hd];simp only[cN];rw[Pz,RV e1,J1]at e2;rw[RV e1];generalize a.tmps[d]=v at e2;cases e2;rfl
   grind
  ·cases h
def Mu(P:Program)(bf:Env)(s:St):ResultVar->Option AV
 |.tmp t=>bn bf t
 |.cell t ty=>match bn bf t with
  |some p=>nG P ty p s
  |none=>none
def wo(P:Program)(bf:Env)(s:St):List ResultVar->Option (List AV)
 | []=>some []
 |r::l=>match Mu P bf s r,wo P bf s l with
  |some x,some xs=>some (x::xs)
  |_,_=>none
def kO(P:Program)(rs:Array ResultVar)(bf:Env)(s:St):Option AV:=match wo P bf s rs.toList with
 |some [x]=>some x
 |some l=>some (.dS l)
 |none=>none
def Ir(tmps:Array Value)(r:ResultVar):Sem Value:=match r with
 |.tmp t=>pure (tmps.getD t undef)
 |.cell a t=>do loadVar t (<-asAddr (tmps.getD a undef))
theorem Is(hs:eG G s w){w2:World}(hw: ∀a,w2.cell? a=w.cell? a){tmps:Array Value}(he:iL G bf tmps): ∀{l:List ResultVar}{xs:List AV},wo P bf s l=some xs->
  ∃vs:List Value,(l.mapM (Ir tmps)).run P w2=.ok vs w2/\VL G xs vs.toArray
 | [],xs,h=>by simp[wo]at h;subst h;exact⟨[],rfl,rfl,by simp⟩
 |r::l,xs,h=>by
  simp only[wo]at h;split at h
  case h_2=>cases h
  rename_i x ys hx DO;cases h;obtain⟨vs,e1,e2⟩:=Is hs hw he DO;have one: ∃v,(Ir tmps r).run P w2=.ok v w2/\V G x v:=by
   cases r with
   |tmp t=>exact⟨_,rfl,(he t x hx).2⟩
   |cell t ty=>
    simp only[Mu]at hx;split at hx
    case h_2=>cases hx
    rename_i p hp;unfold nG at hx;split at hx
    case h_2=>cases hx
    rename_i cs vr;obtain⟨b,o,hpv,ht⟩:=sv hs (he t p hp).2 vr;have Gq:qj G w2 b o cs:=λk x hx=>by rw[hw];exact ht k x hx
    obtain⟨v,r1,r2⟩:=Gq.read (P:=P) hx;exact⟨v,by simp[Ir,hpv,asAddr,r1],r2⟩
  obtain⟨v,o1,o2⟩:=one;refine⟨v::vs,by simp_all,by simpa using e2.1,λi p q hp hq=>?_⟩;cases i with
  |zero=>grind
  |succ i=>exact e2.2 i p q (by grind) (by grind)
theorem Gv(hs:eG G s w){w2:World}(hw: ∀a,w2.cell? a=w.cell? a){tmps:Array Value}(he:iL G bf tmps){fn:Func}{x:AV}(h:kO P fn.results bf s=some x):
  ∃v,(results fn tmps).run P w2=.ok v w2/\V G x v:=by
 unfold kO at h;have key: ∀xs,wo P bf s fn.results.toList=some xs-> ∃vs:List Value,(results fn tmps).run P w2=.ok (if h:vs.toArray.size=1 then vs.toArray[0]else .tuple vs.toArray) w2/\VL G xs vs.toArray:=by
  intro xs hxs;obtain⟨vs,e1,e2⟩:=Is (P:=P) hs hw he hxs;refine⟨vs,?_,e2⟩;have hr:results fn tmps=(do let vs<-fn.results.mapM (Ir tmps);pure (if h:vs.size=1 then vs[0]else .tuple vs)):=by
   rfl
  simp_all[Array.mapM_eq_mapM_toList]
 split at h
 ·rename_i y hy;cases h;obtain⟨vs,e1,e2⟩:=key _ hy;have hl:vs.length=1:=by simpa using e2.1.symm
  match vs,hl with
  | [v],_=>exact⟨v,by grind,e2.2 0 x v rfl rfl⟩
 ·rename_i l hl fG;cases h;obtain⟨vs,e1,e2⟩:=key _ fG;have dK: ¬vs.toArray.size=1:=λhh=>by
   rw[<-e2.1]at hh
   match l,hh with
   | [y],_=>grind
  rw[dif_neg dK]at e1;exact⟨_,e1,.dS _ _ e2.1 e2.2⟩
 ·cases h
def Gw(s' s:St):Prop:=(∀id b,bn s'.heap id=some b->bn s.heap id=some b/\b≠ .gq)/\s.bN<=s'.bN
def DP(P:Program)(rs:Array ResultVar)(K:AV->St->Prop):Exit->Env->St->Prop
 |.normal,bf,s|.ret,bf,s=> ∃x s',kO P rs bf s=some x/\Gw s' s/\K x s'
 |_,_,_=>False
def pc(l:List AV):Nat->Env
 |k=>match l with
  | []=>[]
  |x::r=>(k,x)::pc r (k+1)
theorem yl: ∀(l:List AV)(k t:Nat)(x:AV),bn (pc l k) t=some x->k<=t/\l[t-k]? =some x
 | [],k,t,x,h=>by simp[pc,df,cG]at h
 |y::r,k,t,x,h=>by
  simp only[pc,df,cG]at h;split at h
  ·grind
  ·obtain⟨h1,h2⟩:=yl r (k+1) t x h
   grind
structure Mw (G:bS) (s:St) (w w':World):Prop where
 size:w'.heap.size=w.heap.size
 os:w'.os=w.os
 tape:w'.tape=w.tape
 output:w'.output=w.output
 drawn:w'.drawn=w.drawn
 heap: ∀b:Nat,w'.heap[b]? =w.heap[b]?\/((∃x,w.heap[b]? =some (.deferred x))/\(∃y,w'.heap[b]? =some (.deferred y))/\ ∃id r,bn s.heap id=some .gq/\G.own id=some r/\r.block=b)
theorem Mw.refl(G:bS)(s:St)(w:World):Mw G s w w:=⟨rfl,rfl,rfl,rfl,rfl,λ_=>.inl rfl⟩
theorem Mw.cell{w':World}(h:Mw G s w w')(x:Addr):w'.cell? x=w.cell? x:=by
 rcases h.heap x.block with e|⟨⟨y,e1⟩,⟨z,e2⟩,_⟩
 ·grind [World.cell?_of_block]
 ·simp[World.cell?,e1,e2]
theorem tW{F:Fence}{fn:Func}{tmps:Array Value}{R:Ending->World->Prop}: ∀(ds:List Deferred)(s:St)(w:World),eG G s w->oV G s ds->
  (∀w',Mw G s w w'-> ∃v,(results fn tmps).run P w'=.ok v w'/\R (.returned v) w')->LeavesInM F 0 P fn tmps R ds .returning w
 | [],s,w,hs,_,h=>by
  obtain⟨v,h1,h2⟩:=h w (.refl _ _ _);exact⟨v,h1,h2⟩
 |d::ds,s,w,hs,⟨⟨id,r,hg,ho,ht,fG⟩,hr⟩,h=>by
  obtain⟨o,e2,e3⟩:=hs.at hg ho;cases e3;refine⟨by simp,.inl ⟨r.block,{w with heap:=w.heap.setIfInBounds r.block (.deferred none)},ht,?_,?_⟩⟩
  ·simp[Instr.takeDeferred,getObj,setObj,Sem.run,e2]
  ·have kc:r.block<w.heap.size:=(VG.1 e2).1;have gd: ∀i b,bn (dZ s.heap id) i=some b->i≠id/\bn s.heap i=some b:=λi b hi=>by
    grind [fO]
   have hk: ∀b,b≠r.block->(w.heap.setIfInBounds r.block (.deferred none))[b]? =w.heap[b]?:=λb hb=>Array.getElem?_setIfInBounds_ne (λe=>hb e.symm);refine tW ds ⟨dZ s.heap id,s.bN⟩ _ ?_ ?_ ?_
   ·refine⟨⟨λb o v hi=>?_,hs.lW.2⟩,λi b hi=>?_,λi i' b b' r1 r2 h1 h2=>hs.apart i i' b b' r1 r2 (gd _ _ h1).2 (gd _ _ h2).2,λi b r1 o hi LJ=>hs.clear i b r1 o (gd _ _ hi).2 LJ,hs.cj,λi b hi=>hs.lt i b (gd _ _ hi).2⟩
    ·have hb:b≠r.block:=λe=>by subst e;rw[hs.clear id _ r o hg ho]at hi;cases hi
     have:=hs.ig b o v hi
     grind [World.cell?_of_block]
    ·obtain⟨oz,mL⟩:=gd i b hi;rcases hs.heap i b mL with⟨r1,o1,q1,q2,q3⟩|e
     ·exact .inl ⟨r1,o1,q1,by rw[hk _ (hs.apart i id b _ r1 r mL hg q1 ho oz)];exact q2,q3⟩
     grind
   ·have aux: ∀(l:List Deferred),(∀d'∈l,∀b,d'.target=.collected b->b≠r.block)->oV G s l->oV G ⟨dZ s.heap id,s.bN⟩ l:=by
     intro l
     induction l with
     |nil=>intro _ _;trivial
     |cons d' l ih=>
      intro jB ⟨⟨i,r1,a1,a2,a3,a4⟩,wu⟩;refine⟨⟨i,r1,?_,a2,a3,a4⟩,ih (λd'' hd=>jB d'' (by simp[hd])) wu⟩;have hb:=jB d' (by simp) r1.block a3;show bn (dZ s.heap id) i=some .gq;rw[fO,fN (λe=>by grind)];exact a1
    grind
   ·intro w' AA;refine h w' ⟨by rw[AA.size];simp,AA.os,AA.tape,AA.output,AA.drawn,λb=>?_⟩;by_cases hb:b=r.block
    ·subst hb;refine .inr ⟨⟨_,e2⟩,?_,id,r,hg,ho,rfl⟩;rcases AA.heap r.block with e|⟨_,e,_⟩
     all_goals grind
    ·rcases AA.heap b with e|⟨⟨x,q1⟩,q2,i,r1,q3,q4,q5⟩
     all_goals grind
theorem Cb{f:FuncId}{fn:Func}{c:Code}{args:List AV}{K:AV->St->Prop}(hf:P.funcs[f]? =some fn)(hb:fn.body=some c)(hn:args.length<=fn.ntmps)
  (abx: ∀id,bn s.heap id≠some .gq) (h:gY P fn.ntmps none c (DP P fn.results K) (pc args 0) s):dw P f args s K:=λG w vs hs hv=>by
 refine callsIn_wide (n:=0) |>.1 ?_
 refine callsIn_of_wp_marks hf hb trivial ?_;have Km:wj G fn.ntmps none (pc args 0) s {tmps:=vs++Array.replicate (fn.ntmps-vs.size) undef,defers:=[]} w:=by
  refine⟨hs,λt x hx=>?_,?_,trivial,λid e=>by cases e⟩
  ·obtain⟨_,h2⟩:=yl args 0 t x hx;simp only[Nat.sub_zero]at h2;obtain⟨v,e1,e2⟩:=hv.get h2;have kc:t<vs.size:=(VG.1 e1).1;refine⟨by simp;omega,?_⟩;simp_all[zD0]
  ·have:=hv.1;simp;omega
 have:=h G w _ Km;refine wpIn_mono this ?_;rintro e a' w' ⟨G',env',s',n',x',q'⟩;have fin:(∃x s2,kO P fn.results env' s'=some x/\Gw s2 s'/\K x s2)->LeavesInM Fence.wide 0 P fn a'.tmps (wZ G s w K) a'.defers .returning w':=by
  rintro⟨x,s2,hx,hl,hk⟩;refine tW a'.defers s' w' n'.iB n'.mr λw2 AA=>?_;obtain⟨v,LK,hV2⟩:=Gv (P:=P) n'.iB AA.cell n'.bf hx;have vx:=n'.iB;refine⟨v,LK,v,G',x,s2,rfl,hV2,⟨?_,?_,?_,?_,?_,?_⟩,⟨x'.le,AA.os.trans x'.os,AA.tape.trans x'.tape,AA.output.trans x'.output,by rw[AA.size];exact x'.size,?_,x'.jD,x'.iY,?_,AW x'.bN hl.2,?_,x'.stay,by rw[AA.drawn];exact x'.drawn⟩,hk⟩
  ·refine⟨λb o u hi=>?_,vx.lW.2⟩;rw[AA.cell];exact vx.ig b o u hi
  ·intro id b hg;obtain⟨mL,fG⟩:=hl.1 id b hg;rcases vx.heap id b mL with⟨r,o,e1,e2,e3⟩|e
   case inr=>exact .inr e
   refine .inl ⟨r,o,e1,?_,e3⟩;rcases AA.heap r.block with e|⟨⟨y,q1⟩,_,_⟩
   ·grind
   ·rw[e2]at q1;cases q1;cases e3
    grind
  ·intro id fq b b' r r' h1 h2;exact vx.apart id fq b b' r r' (hl.1 _ _ h1).1 (hl.1 _ _ h2).1
  ·intro id b r o hg;exact vx.clear id b r o (hl.1 _ _ hg).1
  ·intro id nD;exact vx.cj id (AW hl.2 nD)
  ·intro id b hg;exact RU (vx.lt id b (hl.1 id b hg).1) hl.2
  ·intro b hb ym;rcases AA.heap b with e|⟨_,_,id,r,q1,q2,q3⟩
   ·rw[e];exact x'.keep b hb ym
   ·exfalso;rcases x'.iY id r q2 with h|h|h
    ·rcases x'.ids id _ q1 with⟨b0,Gi⟩|L7
     ·exact ym ⟨id,b0,r,Gi,h,q3⟩
     ·rw[hs.cj id L7]at h;cases h
    all_goals grind
  ·intro id b hg;exact x'.ids id b (hl.1 _ _ hg).1
  grind
 cases e with
 |normal=>exact fin q'
 |ret=>exact fin q'
 |exit id=>exact q'.elim
 |goto l=>exact q'.elim
 |panic ch=>exact q'.elim
 |outgrown=>exact q'.elim
end
end Go.Am
end
section
namespace Go.Am
open Go.RowKit
mutual
def AV.dn:AV->Bool
 |.mp _ _ _=>false
 |.ms _ _ _=>false
 |.mc _ _ _ _=>false
 |.kK _=>false
 |.sl _ l=>eO l
 |.agg l=>eO l
 |.dS l=>eO l
 |.fn _ l=>eO l
 |.ip l=>eO l
 |_=>true
def eO:List AV->Bool
 | []=>true
 |x::r=>x.dn&&eO r
end
theorem ec{l:List AV}:eO l=true↔ ∀x∈l,x.dn=true:=by
 induction l with
 |nil=>simp[eO]
 |cons x r ih=>simp[eO,ih]
theorem lX{x:AV}(h:x.dn=true): ∀y∈x.cells,y.dn=true:=by
 intro y hy;cases x<;>simp only[AV.cells,Tb]at hy<;>first
  |(subst hy;exact h)
  |(simp only[AV.dn]at h;exact ec.1 h y hy)
theorem V.dn{G G':bS}(hi: ∀b o v,G.ig b o=some v->G'.ig b o=some v){x:AV}{v:Value}(h:V G x v):x.dn=true->V G' x v:=by
 induction h with
 |any v=>exactλ_=>.any v
 |bool b=>exactλ_=>.bool b
 |int k n=>exactλ_=>.int k n
 |str s=>exactλ_=>.str s
 |jN=>exactλ_=>.jN
 |nB=>exactλ_=>.nB
 |slnil full bG cap hf hb=>exactλ_=>.slnil full bG cap hf hb
 |sl full elems b off cq cap val jC jX eo kI gE _ ih=>
  intro hc;refine .sl full elems b off cq cap val jC jX eo kI (λk hk=>hi _ _ _ (gE k hk)) λk x hx=>ih k x hx ?_;have hm:=gN hx;rw[de,tw]at hm;obtain⟨y,hy,Aw⟩:=hm;simp only[AV.dn]at hc
  grind [lX,ec]
 |ip cells b off val gE _ ih=>
  intro hc;simp only[AV.dn]at hc;exact .ip cells b off val (λk hk=>hi _ _ _ (gE k hk)) λk x hx=>ih k x hx (ec.1 hc x (gN hx))
 |mp id el off r h=>intro hc;cases hc
 |ms id bq len cap r addr h eR ga ha=>intro hc;cases hc
 |gO id bq cap bG h=>intro hc;cases hc
 |mc id bq len cap r addr h eR ga ha=>intro hc;cases hc
 |mE id bq bG=>intro hc;cases hc
 |fn f fi vs dK _ ih=>
  intro hc;simp only[AV.dn]at hc;exact .fn f fi vs dK λi x y hx hy=>ih i x y hx hy (ec.1 hc x (gN hx))
 |kK id r h=>intro hc;cases hc
 |agg cs vs dK _ ih=>
  intro hc;simp only[AV.dn]at hc;exact .agg cs vs dK λi x y hx hy=>ih i x y hx hy (ec.1 hc x (gN hx))
 |dS cs vs dK _ ih=>
  intro hc;simp only[AV.dn]at hc;exact .dS cs vs dK λi x y hx hy=>ih i x y hx hy (ec.1 hc x (gN hx))
section
variable {P:Program} {G:bS} {s:St} {w:World}
def St.nil:St:=⟨[],0⟩
def nf(P:Program)(f:FuncId)(args:List AV)(x:AV):Prop:= ∀s,dw P f args s λy s'=>y=x/\s'=s
theorem R4{f:FuncId}{args:List AV}{x:AV}(ha:eO args=true)(hx:x.dn=true)(h:dw P f args St.nil λy _=>y=x):nf P f args x:=λs G w vs hs hv=>by
 let G0:bS:={ig:=G.ig,own:=λ_=>none};have PF:eG G0 St.nil w:=⟨hs.lW,λid b hg=>by simp[St.nil,df,cG]at hg,λid _ b _ _ _ hg=>by grind,λid b _ _ hg=>by grind,λ_ _=>rfl,λid b hg=>by simp[St.nil,df,cG]at hg⟩;have hv0:VL G0 args vs:=⟨hv.1,λi p q hp hq=>V.dn (G:=G) (G':=G0) (λb o u(h:G.ig b o=some u)=>(h:G0.ig b o=some u)) (hv.2 i p q hp hq) (ec.1 ha p (gN hp))⟩;refine(h G0 w vs PF hv0).mono ?_;rintro e w' ⟨v,G',y,s',rfl,hV,hS,hE,rfl⟩;let G1:bS:={ig:=G'.ig,own:=G.own};have eR:ss G G1:=⟨λb o v hi=>hE.le.ig b o v hi,λ_ _ h=>h⟩;have no0: ∀b,¬mF G0 St.nil b:=λb ⟨id,blk,r,hg,_⟩=>by grind
 refine⟨v,G1,y,s,rfl,V.dn (G:=G') (G':=G1) (λb o u(h:G'.ig b o=some u)=>(h:G1.ig b o=some u)) hV hx,⟨hS.lW,λid b hg=>?_,hs.apart,λid b r o hg ho=>?_,hs.cj,hs.lt⟩,
  ⟨eR,hE.os,hE.tape,hE.output,hE.size,λb hb _=>hE.keep b hb (no0 b),λb o v hi=>?_,λ_ _ h=>.inl h,λid b hg=>.inl ⟨b,hg⟩,fw _,λ_ h=>h,λ_ _ h=>h,hE.drawn⟩,rfl,rfl⟩
 ·rcases hs.heap id b hg with⟨r,o,e1,e2,e3⟩|e
  ·exact .inl ⟨r,o,e1,by rw[hE.keep _ (hs.jE hg e1) (no0 _)];exact e2,e3.mono eR⟩
  grind
 ·cases hi:G1.ig r.block o with
  |none=>rfl
  |some u=>
   rcases hE.jD _ _ _ hi with h|h|h
   ·rw[show G.ig r.block o=none from hs.clear id b r o hg ho]at h;cases h
   ·have:=hs.jE hg ho;omega
   grind
 ·rcases hE.jD _ _ _ hi with h|h|h
  all_goals grind
def pe(s:St)(x:AV)(s':St)(x':AV):Prop:= ∀G w v,eG G s w->V G x v-> ∃G',eG G' s' w/\Ext G s w G' s' w/\V G' x' v
theorem dw.turn{f:FuncId}{args:List AV}{Q:AV->St->Prop}(h:dw P f args s λx s'=> ∃s2 x2,pe s' x s2 x2/\Q x2 s2):dw P f args s Q:=λG w vs hs hv=>by
 refine(h G w vs hs hv).mono ?_;rintro e w' ⟨v,G',x,s',rfl,hV,hS,hE,s2,x2,ht,hq⟩;obtain⟨G2,h1,h2,h3⟩:=ht G' w' v hS hV;exact⟨v,G2,x2,s2,rfl,h3,h1,hE.trans hs h2,hq⟩
theorem pe.refl(s:St)(x:AV):pe s x s x:=λG w v hs hv=>⟨G,hs,.refl _ _ _,hv⟩
theorem kw(hs:eG G s w){id bq len cq:Nat}{elems:List AV}(hg:bn s.heap id=some (.cells cq elems))(hl:bq+len<=elems.length):
  ∃G',eG G' ⟨dZ s.heap id,s.bN⟩ w/\Ext G s w G' ⟨dZ s.heap id,s.bN⟩ w/\(∀bq len v,bq+len<=elems.length->V G (.ms id bq len) v->V G' (.sl false ((elems.drop bq).take len)) v)/\ ∀e v,elems=[e]->V G (.mp id 0 0) v->V G' (.ip e.cells) v:=by
 rcases hs.heap id _ hg with⟨r,o,e1,e2,e3⟩|⟨e1,sz,_,e2⟩
 case inr=>
  cases e2;have hd: ∀i b,bn (dZ s.heap id) i=some b->bn s.heap i=some b:=λi b hi=>by
   grind [fO]
  refine⟨G,hs.drop hd (fw _),Ext.drop hd (fw _) λi hi=>?_,λbq len v hl hv=>?_,λe v he _=>by cases he⟩
  ·rw[fO,fN (λe=>by grind)];exact hi
  ·cases hv with
   |ms _ _ _ cap r' addr ho eR Qb iK=>grind
   |gO _ _ cap bG hc=>
    simp only[S9];exact .slnil _ _ _ (λe=>by cases e) (λ_=>hc)
 cases e3 with
 |cells _ _ cs ty vr eo h0 jR kI ga hV=>
  subst eo;obtain⟨q1,q2⟩:=hs.freeze hg e1 e2;refine⟨_,q1,q2,λbq len v hl hv=>?_,λe v he hv=>?_⟩
  case refine_2=>
   subst he;cases hv with
   |mp _ _ _ r' ho=>
    rw[e1]at ho;cases ho;have hc:=jR e (by simp);have ga:r.bG+r.cq<=cs.size:=by grind
    refine .ip e.cells r.block (r.bG+0*r.cq+0) (λk=>cs.getD (r.bG+k) undef) (λk hk=>?_) λk x hx=>?_
    ·have kc:r.bG+k<cs.size:=by omega
     simp[bS.ib,kc]
    ·obtain⟨u,p1,p2⟩:=hV k x (by simpa[de]using hx);rw[Pz,p1];exact p2.mono q2.le
  cases hv with
  |gO _ _ cap bG hc=>
   simp only[S9];exact .slnil _ _ _ (λe=>by cases e) (λ_=>hc)
  |ms _ _ _ cap r' addr ho eR Qb iK=>
   rw[e1]at ho;cases ho;have dK:((elems.drop bq).take len).length=len:=by simp;omega
   have mu: ∀y∈(elems.drop bq).take len,y∈elems:=λy hy=>PW (JZ hy);by_cases hn:len=0
   ·subst hn;simp only[S9];exact .slnil _ _ _ (λe=>by cases e) (λe=>by cases e)
   ·rw[iK (by omega)];have key:=V.sl (G:=G.ib r.block cs) false ((elems.drop bq).take len) r.block (r.bG+bq*r.cq) r.cq cap (λk=>cs.getD (r.bG+bq*r.cq+k) undef) (by omega) (by simp)
     (λy hy=>jR y (mu y hy)) (λy hy=>kI y (by
      rw[de,tw]at hy |-
      grind)) (λk hk=>by
      rw[dK]at hk;have h1:(bq+len)*r.cq<=elems.length*r.cq:=DA _ hl;rw[F3]at h1;have kc:r.bG+bq*r.cq+k<cs.size:=by omega
      simp[bS.ib,kc]) (λk y hy=>by
      have hk:=ij (n:=bq+len) (l:=bq) jR h0 (k:=k) (x:=y) (by
       grind)
      obtain⟨u,p1,p2⟩:=hV _ y hk;rw[Pz,RW,p1];exact p2.mono q2.le)
    grind
def tX:AV->St->AV×St
 |.ms id bq len,s=>match bn s.heap id with
  |some (.cells _ elems)=>if bq+len<=elems.length then(.sl false ((elems.drop bq).take len),⟨dZ s.heap id,s.bN⟩)else(.ms id bq len,s)
  |_=>(.ms id bq len,s)
 |x,s=>(x,s)
def nC(f:AV->St->AV×St):List AV->St->List AV×St
 | [],s=>([],s)
 |x::r,s=>((f x s).1::(nC f r (f x s).2).1,(nC f r (f x s).2).2)
def tY:AV->St->AV×St
 |.agg l,s=>(.agg (nC tX l s).1,(nC tX l s).2)
 |x,s=>tX x s
def Mx:AV->St->AV×St
 |.dS l,s=>(.dS (nC tY l s).1,(nC tY l s).2)
 |x,s=>tY x s
theorem vy(s:St)(x:AV):pe s x (tX x s).2 (tX x s).1:=by
 unfold tX;split
 ·rename_i id bq len;split
  ·rename_i cq elems hg;split
   ·rename_i hl;intro G w v hs hv
    grind [kw]
   ·exact .refl _ _
  ·exact .refl _ _
 ·exact .refl _ _
theorem vz{f:AV->St->AV×St}(hf: ∀s x,pe s x (f x s).2 (f x s).1): ∀(l:List AV)(s:St)(G:bS)(w:World)(vs:List Value),eG G s w->l.length=vs.length->
  (∀(i:Nat)x y,l[i]? =some x->vs[i]? =some y->V G x y)-> ∃G',eG G' (nC f l s).2 w/\Ext G s w G' (nC f l s).2 w/\(nC f l s).1.length=vs.length/\
   ∀(i:Nat)x y,(nC f l s).1[i]? =some x->vs[i]? =some y->V G' x y
 | [],s,G,w,vs,hs,hl,hV=>⟨G,hs,.refl _ _ _,hl,by simp[nC]⟩
 |x::r,s,G,w,vs,hs,hl,hV=>by
  cases vs with
  |nil=>simp at hl
  |cons v vs=>
   obtain⟨G1,a1,a2,a3⟩:=hf s x G w v hs (hV 0 x v rfl rfl);obtain⟨G2,b1,b2,b3,b4⟩:=vz hf r _ G1 w vs a1 (by grind) λi p q hp hq=>(hV (i+1) p q (by grind) (by grind)).mono a2.le;refine⟨G2,b1,a2.trans hs b2,by simpa[nC]using b3,λi p q hp hq=>?_⟩;cases i with
   |zero=>simp[nC]at hp hq;subst hp;subst hq;exact a3.mono b2.le
   |succ i=>exact b4 i p q (by simpa[nC]using hp) (by grind)
theorem Bc(s:St)(x:AV):pe s x (tY x s).2 (tY x s).1:=by
 unfold tY;split
 ·rename_i l;intro G w v hs hv;cases hv with
  |agg _ vs dK hh=>
   obtain⟨G',a,b,c,d⟩:=vz vy l s G w vs.toList hs (by grind) λi p q hp hq=>hh i p q hp (by grind);exact⟨G',a,b,.agg _ vs (by simpa using c) λi p q hp hq=>d i p q hp (by grind)⟩
 ·exact vy s _
theorem yn(s:St)(x:AV):pe s x (Mx x s).2 (Mx x s).1:=by
 unfold Mx;split
 ·rename_i l;intro G w v hs hv;cases hv with
  |dS _ vs dK hh=>
   obtain⟨G',a,b,c,d⟩:=vz Bc l s G w vs.toList hs (by grind) λi p q hp hq=>hh i p q hp (by grind);exact⟨G',a,b,.dS _ vs (by simpa using c) λi p q hp hq=>d i p q hp (by grind)⟩
 ·exact Bc s _
end
end Go.Am
end
section
namespace Go.Am
open Go.RowKit
structure Ins where
 dst:Option Nat
 op:Op
 guard:Option (Nat×Bool)
def mG(ops:List Oper)(o:Oper):Ins:=⟨o.dst,o.op,match o.guard with
 |none=>none
 |some (j,want)=>match(ops[j]?).bind (·.dst)with
  |some d=>some (d,want)
  |none=>some (0,want)⟩
def ins(ops:List Oper):List Ins:=ops.map (mG ops)
def jY(ops:List Oper):Bool:=ops.all λo=>match o.guard with
 |none=>true
 |some (j,_)=>((ops[j]?).bind (·.dst)).isSome
def mw(N:Nat)(ops:List Oper):Bool:=ops.all λo=>mY N o.dst
def DQ(g:Option (Nat×Bool))(bf:Env)(A B:Prop):Prop:=match g with
 |none=>A
 |some (d,want)=>match bn bf d with
  |some (.bool b)=>(b=want->A)/\(b=!want->B)
  |some (.dS [])=>B
  |_=>False
def ows(P:Program)(op:Op)(K:AV->St->Prop)(bf:Env)(s:St):Prop:=
 match fW op with
 |some (f,args)=>match oper bf f,opers bf args with
  |some (.fn g fi),some l=>enters P g=true/\dw P g (l++fi) s K
  |some (.kK id),some l=>ic P id l s K
  |_,_=>False
 |none=>match gH P op bf s with
  |some (v,s')=>K v s'
  |none=>False
def Kn(P:Program)(op:Op)(K:AV->St->Prop)(bf:Env)(s:St):Prop:= ∃env' v s' v2 s2,(∀G a,iL G bf a->iL G env' a)/\fW op=none/\gH P op env' s=some (v,s')/\pe s' v s2 v2/\K v2 s2
def Gx(P:Program)(op:Op)(K:AV->St->Prop)(bf:Env)(s:St):Prop:=ows P op K bf s\/Kn P op K bf s
theorem Bd{P:Program}{op:Op}{K K':AV->St->Prop}{bf:Env}{s:St}(h:Kn P op K bf s)(hk: ∀v s',K v s'->K' v s'):Kn P op K' bf s:=by
 obtain⟨e,v,s',v2,s2,h0,h1,h2,h3,h4⟩:=h;exact⟨e,v,s',v2,s2,h0,h1,h2,h3,hk _ _ h4⟩
theorem yo{P:Program}{N:Nat}{ρ:Option Nat}{bf:Env}{s:St}{G:bS}{a:Act}{w:World}{o:Oper}{K:AV->St->Prop}{next:Act->World->Prop}{R:Exit->Act->World->Prop}(h:Kn P o.op K bf s)(hn:wj G N ρ bf s a w)(ro:Option Nat)
  (hK: ∀v G' x s' w',V G' x v->eG G' s' w'->Ext G s w G' s' w'->K x s'->next (a.put o.dst v) w'):o.wpIn (tt ro) 0 P a w next R:=by
 refine⟨λ_ _=>trivial,?_⟩;obtain⟨env',x,s',x2,s2,hw,hc,hx,ht,hk⟩:=h;have yk:o.semAt (tt ro).round a.eval=execOp a.eval o:=Oper.semAt_eq _ _ _ (λc=>by
  intro e;rw[e]at hx;simp[gH]at hx)
 rw[yk];obtain⟨nx,v,G',w',e1,e2,e3,e4,e5⟩:=rm hn.iB (hw _ _ hn.bf) o hx;obtain⟨G2,t1,t2,t3⟩:=ht G' w' v e4 e3;rw[e1];rcases e2 with rfl|⟨rfl,rfl⟩
 ·rw[Oper.uponIn_value];exact hK v G2 x2 s2 w' t3 t1 (e5.trans hn.iB t2) hk
 ·rw[Oper.uponIn_skip];exact hK undef G2 x2 s2 w' t3 t1 (e5.trans hn.iB t2) hk
section
variable {P:Program} {N:Nat} {ρ:Option Nat} {Q:Exit->Env->St->Prop} {bf:Env} {s:St}
def look(bf:Env):List Nat->Option (List AV)
 | []=>some []
 |k::r=>match bn bf k,look bf r with
  |some x,some l=>some (x::l)
  |_,_=>none
def lu:List Nat->List AV->Env
 |k::r,x::l=>(k,x)::lu r l
 |_,_=>[]
theorem DR: ∀{ks:List Nat}{l:List AV}{bf:Env},look bf ks=some l-> ∀t x,bn (lu ks l) t=some x->bn bf t=some x
 | [],l,bf,h,t,x,hx=>by simp[look]at h;subst h;simp[lu,df,cG]at hx
 |k::r,l,bf,h,t,x,hx=>by
  simp only[look]at h;split at h
  ·rename_i y l' h1 h2;cases h;simp only[lu,df,cG]at hx;split at hx
   ·rename_i e;subst e;cases hx;exact h1
   ·exact DR h2 t x hx
  ·cases h
structure WR (s' s:St):Prop where
 heap: ∀id b,bn s'.heap id=some b->bn s.heap id=some b
 bN:s.bN<=s'.bN
 gq: ∀id,bn s.heap id=some .gq->bn s'.heap id=some .gq
theorem WR.refl(s:St):WR s s:=⟨λ_ _ h=>h,fw _,λ_ h=>h⟩
theorem My{c:Code}(ks:List Nat){l:List AV}{s':St}(he:look bf ks=some l)(hs:WR s' s)(h:gY P N ρ c Q (lu ks l) s'):gY P N ρ c Q bf s:=
 Mb h (DR he) hs.heap hs.bN hs.gq
end
end Go.Am
end
section
namespace Go.Am
open Go.RowKit
inductive Step where
 |gP (i:Nat) (note:Bool)
 |gz (i:Nat) (rn:List Nat)
 |alloc (i:Nat)
 deriving DecidableEq
def Step.idx:Step->Nat
 |.gP i _=>i
 |.gz i _=>i
 |.alloc i=>i
def Step.waits:Step->Bool
 |.gP _ _=>false
 |_=>true
def Step.It:Step->Bool
 |.alloc _=>true
 |_=>false
def eY:Op->Bool
 |.move _|.assign _|.pick _ _ _|.build _ _|.buildSlice _ _ _|.load _ _|.nilCheck _|.binOp _ _ _ _ _|.unOp _ _ _|.convert _ _ _|.makeFunc _ _ _|.slice _ _ _ _ _
 |.fieldAddr _ _ _|.field _ _ _|.indexAddr _ _ _|.index _ _ _|.extract _ _=>true
 |.call ⟨.builtin .len,_,_⟩|.call ⟨.builtin .min,_,_⟩|.call ⟨.builtin .max,_,_⟩=>true
 |_=>false
def kx:Op->Bool
 |.move _|.assign _|.pick _ _ _|.build _ _|.buildSlice _ _ _|.nilCheck _|.binOp _ _ _ _ _|.unOp _ _ _|.convert _ _ _|.makeFunc _ _ _
 |.fieldAddr _ _ _|.field _ _ _|.index _ _ _|.extract _ _=>true
 |.call ⟨.builtin .len,_,_⟩|.call ⟨.builtin .min,_,_⟩|.call ⟨.builtin .max,_,_⟩=>true
 |_=>false
theorem ng{P:Program}{op:Op}{bf:Env}{s s':St}{x:AV}(hl:eY op=true)(h:gH P op bf s=some (x,s')):s'=s:=by
 cases op<;>simp only[eY]at hl<;>first|(cases hl;done)|skip
 case call c=>
  obtain⟨callee,args,ts⟩:=c;cases callee with
  |value f=>cases hl
  |invoke r m=>cases hl
  |builtin b=>
   cases b<;>simp only[]at hl<;>first|(cases hl;done)|skip
   all_goals
    simp only[gH]at h;split at h<;>first|exact(dC h).2|cases h
 case makeFunc fn first fi=>
  cases fn<;>simp only[gH]at h<;>first|(cases h;done)|skip
  split at h
  ·split at h
   ·cases h;rfl
   ·cases h
  ·cases h
 all_goals
  simp only[gH]at h
  first
   |exact(dC h).2
   |(repeat' split at h)<;>first|exact(dC h).2|(cases h;done)|grind
theorem nh{P:Program}{op:Op}{bf:Env}{s s2:St}{x:AV}(hl:kx op=true)(h:gH P op bf s=some (x,s)):gH P op bf s2=some (x,s2):=by
 have k: ∀{v:Option AV},fC v s=some (x,s)->fC v s2=some (x,s2):=λh=>by rw[(dC h).1];rfl
 cases op<;>simp only[kx]at hl<;>first|(cases hl;done)|skip
 case call c=>
  obtain⟨callee,args,ts⟩:=c;cases callee with
  |value f=>cases hl
  |invoke r m=>cases hl
  |builtin b=>
   cases b<;>simp only[]at hl<;>first|(cases hl;done)|skip
   all_goals
    simp only[gH]at h |-
    split at h<;>first|exact k h|cases h
 case makeFunc fn first fi=>
  cases fn<;>simp only[gH]at h |- <;>first|(cases h;done)|skip
  split at h
  ·rename_i h0;rw[ez h0];split at h
   ·rename_i l hl;cases h;simp only[hl]
   ·cases h
  ·cases h
 case pick c a b=>
  simp only[gH]at h |-
  split at h
  all_goals grind
 all_goals
  simp only[gH]at h |-
  first
   |exact k h
   |(split at h<;>first|exact k h|(cases h;rfl)|(cases h;done)|(split at h<;>first|exact k h|(cases h;rfl)|(cases h;done)|(split at h<;>first|exact k h|(cases h;rfl)|(cases h;done))))
def R5:Operand->List Nat
 |.tmp t=>[t]
 |_=>[]
def iM(o:Oper):List Nat:=o.op.operands.toList.flatMap R5
def gm(ts:List Nat)(bf:Env):Env:=ts.filterMap λt=>(bn bf t).map λx=>(t,x)
theorem Be{ts:List Nat}{bf:Env}{t:Nat}{x:AV}(h:bn (gm ts bf) t=some x):t∈ts/\bn bf t=some x:=by
 induction ts with
 |nil=>simp[gm,df,cG]at h
 |cons k r ih=>
  simp only[gm,List.filterMap_cons]at h;cases hk:bn bf k with
  |none=>
   simp only[hk,RY]at h;obtain⟨a,b⟩:=ih h
   grind
  |some y=>
   simp only[hk,iJ,df,cG]at h;split at h
   ·grind
   ·obtain⟨a,b⟩:=ih h
    grind
def wv(l:List Oper)(o:Oper):List Nat:=match o.guard with
 |none=>[]
 |some (j,_)=>match(l[j]?).bind (·.dst)with
  |some d=>[d]
  |none=>[]
def qn:List (Nat×Env×AV)->Nat->Option (Env×AV)
 | [],_=>none
 |(k,e,v)::r,i=>if k=i then some (e,v)else qn r i
def sK(P:Program)(l:List Oper)(tr:List (Nat×Env×AV))(s:St):List Nat->Prop
 | []=>True
 |j::r=>(match qn tr j,l[j]? with
  |some (e,v),some o=>gH P o.op e s=some (v,s)
  |_,_=>True)/\sK P l tr s r
theorem yp{P:Program}{l:List Oper}{tr:List (Nat×Env×AV)}{s:St}{e:Env}{v:AV}{o:Oper}: ∀{c:List Nat},sK P l tr s c-> ∀j∈c,qn tr j=some (e,v)->l[j]? =some o->gH P o.op e s=some (v,s)
 | [],_,j,hj,_,_=>by cases hj
 |k::r,⟨h1,h2⟩,j,hj,hf,hl=>by
  rcases pU.1 hj with rfl|hj
  ·simp only[hf,hl]at h1;exact h1
  ·exact yp h2 j hj hf hl
theorem Gy{P:Program}{N:Nat}{ρ:Option Nat}{bf:Env}{s:St}{G:bS}{a:Act}{w:World}{o:Oper}{K:AV->St->Prop}{next:Act->World->Prop}{R:Exit->Act->World->Prop}(h:Gx P o.op K bf s)(hn:wj G N ρ bf s a w)(ro:Option Nat)
 (hK: ∀v G' x s' w',V G' x v->eG G' s' w'->Ext G s w G' s' w'->K x s'->next (a.put o.dst v) w'):o.wpIn (tt ro) 0 P a w next R:=h.elim (λh=>vw h hn ro hK) λh=>yo h hn ro hK
def Y3(l:List Oper)(o:Oper)(bf:Env)(A:Prop)(B:Prop):Prop:=DQ (mG l o).guard bf A B
def An(P:Program)(l:List Oper)(K:Env->St->Prop):List Step->List (Nat×Env×AV)->Env->St->Prop
 | [],_,bf,s=>K bf s
 |.gP i note::r,tr,bf,s=>match l[i]? with
  |some o=>Y3 l o bf (match gH P o.op (gm (iM o) bf) s with
    |some (v,_)=>An P l K r (if note then(i,gm (iM o) bf,v)::tr else tr) (eH o.dst v bf) s
    |none=>False) (An P l K r tr (eH o.dst (.dS []) bf) s)
  |none=>False
 |.gz i rn::r,tr,bf,s=>match l[i]? with
  |some o=>Y3 l o bf (Gx P o.op (λv s'=>sK P l tr s' rn/\An P l K r tr (eH o.dst v bf) s') (gm (iM o) bf) s) (An P l K r tr (eH o.dst (.dS []) bf) s)
  |none=>False
 |.alloc i::r,tr,bf,s=>match l[i]? with
  |some o=>match gH P o.op [] s with
   |some (v,s')=>An P l K r tr (eH o.dst v bf) s'
   |none=>False
  |none=>False
def direct(o:Oper):List Nat:=(o.after.toList.filter (Region.binds .any)).map (·.on)
def iN(pre:List (List Nat))(i:Nat):List Nat:=pre.getD i []
def iR(l:List Oper)(i:Nat):Option Nat:=(l[i]?).bind (·.dst)
structure gS (X:Nat->Nat->Prop) (P:Program) (N:Nat) (l:List Oper) (pre:List (List Nat)) (br:List Step):Prop where
 Mz: ∀i∈List.range l.length,∀o∈l[i]?,(∀p∈direct o,p<i)/\ ∀p∈iN pre i,p<i/\(p∈direct o\/ ∃d∈direct o,p∈iN pre d)
 WS: ∀i∈List.range l.length,∀j∈List.range l.length,∀t∈iR l i,iR l j=some t->i=j
 Ko:mw N l=true
 grd:jY l=true
 reads: ∀i∈List.range l.length,∀o∈l[i]?,∀t∈iM o++wv l o,(∃u∈iN pre i,iR l u=some t)\/(∀u∈List.range l.length,iR l u=some t->i∈iN pre u)
 perm:(∀st∈br,st.idx<l.length)/\(∀i∈List.range l.length,i∈br.map Step.idx)/\(br.map Step.idx).Nodup
 MA: ∀k∈List.range br.length,∀st∈br[k]?,∀p∈iN pre st.idx,p∈(br.take k).map Step.idx
 waits: ∀k∈List.range br.length,∀st∈br[k]?,st.waits=true-> ∀st2∈br.drop (k+1),st2.It=true\/st.idx∈iN pre st2.idx\/X st.idx st2.idx
 kinds: ∀st∈br,∀o∈l[st.idx]?,match st with
  |.gP _ _=>eY o.op=true
  |.gz _ _=>True
  |.alloc _=>(match o.op with|.alloc t=>(xU P t).isSome=true|_=>False)/\o.guard=none/\o.dst.isSome=true
 MB: ∀k∈List.range br.length,∀st∈br[k]?,match st with
  |.gz h rn=> ∀st2∈br.take k,match st2 with
   |.gP j note=> ∀o∈l[j]?,kx o.op=true\/j∈iN pre h\/(note=true/\j∈rn)
   |_=>True
  |_=>True
abbrev Cc(P:Program)(N:Nat)(l:List Oper)(pre:List (List Nat))(br:List Step):Prop:=gS (λ_ _=>False) P N l pre br
end Go.Am
end
section
namespace Go.Am
open Go.RowKit
section
variable {X:Nat->Nat->Prop} {P:Program} {N:Nat} {ρ:Option Nat} {l:List Oper} {pre:List (List Nat)} {br:List Step} {K:Env->St->Prop} {iC:Env} {G0:bS} {s0:St} {w0:World}
def jG(ds:List Step):List Nat:=ds.map Step.idx
def Rd(l:List Oper)(pre:List (List Nat))(bf iC:Env)(i t:Nat)(x:AV):Prop:=
 (∃u,u∈iN pre i/\iR l u=some t/\bn bf t=some x)\/((∀u,u<l.length->iR l u=some t->i∈iN pre u)/\bn iC t=some x)
def Gz:AV->Bool->Option Bool
 |.bool c,want=>some (c==want)
 |.dS [],_=>some false
 |_,_=>none
def F8(l:List Oper)(pre:List (List Nat))(bf iC:Env)(i:Nat)(o:Oper)(b:Bool):Prop:=match o.guard with
 |none=>b=true
 |some (j,want)=> ∃d x,iR l j=some d/\Rd l pre bf iC i d x/\Gz x want=some b
def WT(P:Program)(l:List Oper)(pre:List (List Nat))(br:List Step)(bf iC:Env)(tr:List (Nat×Env×AV))(s:St)(i:Nat):Prop:=
 ∃o,l[i]? =some o/\eY o.op=true/\
  ((F8 l pre bf iC i o true/\ ∃e v,(∀t x,bn e t=some x->Rd l pre bf iC i t x)/\gH P o.op e s=some (v,s)/\(∀t,o.dst=some t->bn bf t=some v)/\
    ((∃st∈br,st=.gP i true)->qn tr i=some (e,v)))\/
   (F8 l pre bf iC i o false/\ ∀t,o.dst=some t->bn bf t=some (.dS [])))
def Iu(P:Program)(l:List Oper)(G:bS)(s:St)(w0 w:World)(tmps:Array Value)(i:Nat):Prop:=
 ∃o t ty z b cs e,l[i]? =some o/\o.op=.alloc ty/\o.dst=some t/\xU P ty=some z/\tmps[t]? =some (.pointer (some ⟨b,0,none⟩))/\w.heap[b]? =some (.cells cs e (0,0))/\
  VL G z.cells cs/\ ¬mF G s b/\(∀j,G.ig b j=none)/\w0.heap.size<=b
structure pX (P:Program) (N:Nat) (ρ:Option Nat) (l:List Oper) (pre:List (List Nat)) (br:List Step) (K:Env->St->Prop) (iC:Env) (G0:bS) (s0:St) (w0:World)
  (E:Nat->Prop) (ds σ:List Step) (tr:List (Nat×Env×AV)) (bf:Env) (s:St) (a:Act) (w:World) (G:bS):Prop where
 split:br=ds++σ
 run:An P l K σ tr bf s
 iB:eG G s w
 ext:Ext G0 s0 w0 G s w
 size:a.tmps.size=N
 mr:oV G s a.defers
 known:wi G ρ
 lt: ∀i,E i->i<l.length
 closed: ∀i,E i-> ∀p∈iN pre i,E p
 sub: ∀i,E i->i∈jG ds\/(.alloc i∈σ/\Iu P l G s w0 w a.tmps i)
 wait: ∀st∈ds,st.waits=true->E st.idx
 s1: ∀t x,bn iC t=some x->(∀i,E i->iR l i≠some t)->t<N/\V G x (a.tmps.getD t undef)
 s2: ∀i,E i->i∈jG ds-> ∀t,iR l i=some t-> ∀x,bn bf t=some x->V G x (a.tmps.getD t undef)
 e0: ∀t,(∀i∈jG ds,iR l i≠some t)->bn bf t=bn iC t
 Kp: ∀i∈jG ds,¬E i->WT P l pre br bf iC tr s i
 DS: ∀i j,E i->E j->.alloc i∈σ->.alloc j∈σ->i≠j-> ∀ti tj,iR l i=some ti->iR l j=some tj->a.tmps[ti]?≠a.tmps[tj]?
theorem ky{ds σ:List Step}(hp:gS X P N l pre br)(h:br=ds++σ){st:Step}(hm:st∈σ):st.idx ∉ jG ds:=by
 have:=hp.perm.2.2;rw[h,F4,List.nodup_append]at this;exactλhi=>this.2.2 st.idx hi st.idx (mS.2 ⟨st,hm,rfl⟩) rfl
theorem gQ(hp:gS X P N l pre br){i j t:Nat}(hi:iR l i=some t)(hj:iR l j=some t):i=j:=by
 have lt: ∀{i},iR l i=some t->i<l.length:=λ{i}h=>by
  unfold iR at h
  grind
 exact hp.WS i (J2.2 (lt hi)) j (J2.2 (lt hj)) t hi hj
theorem GA{i t:Nat}(h:iR l i=some t):i<l.length:=by
 unfold iR at h
 grind
theorem gK{i:Nat}{o:Oper}(h:l[i]? =some o):iR l i=o.dst:=by simp[iR,h]
theorem qo(hp:gS X P N l pre br){ds σ:List Step}{st:Step}(h:br=ds++st::σ): ∀p∈iN pre st.idx,p∈jG ds:=by
 intro p mj;have hk:br[ds.length]? =some st:=by rw[h];simp
 have:=hp.MA ds.length (by grind) st hk p mj;rw[h]at this;simpa[jG]using this
theorem kP(hp:gS X P N l pre br){ds σ:List Step}(h:br=ds++σ){i:Nat}(hi:i∈jG ds): ∀p∈iN pre i,p∈jG ds:=by
 intro p mj;obtain⟨st,ja,rfl⟩:=mS.1 hi;obtain⟨d1,d2,rfl⟩:=List.append_of_mem ja;have:=qo hp (ds:=d1) (σ:=d2++σ) (by rw[h];simp) p mj;simp only[jG,F4,oq];exact .inl this
theorem Cd(hp:gS X P N l pre br){E:Nat->Prop}{ds σ:List Step}{tr:List (Nat×Env×AV)}{bf:Env}{s:St}{a:Act}{w:World}{G:bS}
  (h:pX P N ρ l pre br K iC G0 s0 w0 E ds σ tr bf s a w G) {i t:Nat} {x:AV} (hr:Rd l pre bf iC i t x) (mM: ∀p∈iN pre i,E p) (hd: ∀p∈iN pre i,p∈jG ds) (yq: ¬E i):
  t<N/\V G x (a.tmps.getD t undef):=by
 rcases hr with⟨u,hu,PG,hx⟩|⟨jB,hx⟩
 ·refine⟨?_,h.s2 u (mM u hu) (hd u hu) t PG x hx⟩;have hl:=GA PG;have:=hp.Ko;simp only[mw,qc]at this;obtain⟨o,ho⟩: ∃o,l[u]? =some o:=⟨_,dF hl⟩;have h2:=this o (gN ho);rw[gK ho]at PG;rw[PG]at h2;simpa[mY]using h2
 ·refine h.s1 t x hx λj hj WU=>?_;exact yq (h.closed j hj i (jB j (h.lt j hj) WU))
theorem Bf(hp:gS X P N l pre br){E:Nat->Prop}{ds σ:List Step}{tr:List (Nat×Env×AV)}{bf:Env}{s:St}{a:Act}{w:World}{G:bS}
  (h:pX P N ρ l pre br K iC G0 s0 w0 E ds σ tr bf s a w G) {i t:Nat} {x:AV} {o:Oper} (ho:l[i]? =some o) (ht:t∈iM o++wv l o) (hx:bn bf t=some x) (yq:i ∉ jG ds):Rd l pre bf iC i t x:=by
 have wx:=(lf.1 ho).1;rcases hp.reads i (J2.2 wx) o ho t ht with⟨u,hu,PG⟩|jB
 ·exact .inl ⟨u,hu,PG,hx⟩
 ·refine .inr ⟨λu hu PG=>jB u (J2.2 hu) PG,?_⟩;rw[<-h.e0 t λj hj WU=>?_]
  ·exact hx
  ·exact yq (kP hp h.split hj i (jB j (J2.2 (GA WU)) WU))
theorem Rd.put(hp:gS X P N l pre br){ds:List Step}{bf env':Env}{i j t:Nat}{x:AV}(fG: ∀t,iR l i≠some t->bn env' t=bn bf t)(hj: ∀p∈iN pre j,p∈jG ds)(hi:i ∉ jG ds)
  (h:Rd l pre bf iC j t x):Rd l pre env' iC j t x:=by
 rcases h with⟨u,hu,PG,hx⟩|h
 ·refine .inl ⟨u,hu,PG,?_⟩
  grind [gQ]
 ·exact .inr h
theorem F8.put(hp:gS X P N l pre br){ds:List Step}{bf env':Env}{i j:Nat}{o:Oper}{b:Bool}(fG: ∀t,iR l i≠some t->bn env' t=bn bf t)(hj: ∀p∈iN pre j,p∈jG ds)(hi:i ∉ jG ds)
  (h:F8 l pre bf iC j o b):F8 l pre env' iC j o b:=by
 unfold F8 at h |-
 split at h
 ·exact h
 ·obtain⟨d,c,h1,h2,h3⟩:=h;exact⟨d,c,h1,h2.put hp fG hj hi,h3⟩
theorem gr(d:Option Nat)(v:AV)(bf:Env)(t:Nat):bn (eH d v bf) t=if d=some t then some v else bn bf t:=by
 cases d with
 |none=>simp[eH]
 |some d=>simp only[eH,eK,Option.some.injEq]
theorem yr{op:Op}{e:Env}{s s':St}{v:AV}(hl:eY op=true)(hm: ∀id b,bn s.heap id=some b->bn s'.heap id=some b)(h:gH P op e s=some (v,s)):gH P op e s'=some (v,s'):=by
 have k: ∀{x y:Option AV},(∀v,x=some v->y=some v)->fC x s=some (v,s)->fC y s'=some (v,s'):=λPH h=>by
  rw[PH v (dC h).1];rfl
 by_cases ja:kx op=true
 ·exact nh ja h
 ·cases op<;>simp only[eY]at hl<;>first|(cases hl;done)|(exact absurd rfl ja)|skip
  case load t p=>
   simp only[gH]at h |-
   split at h
   ·refine k (λv hv=>?_) h;unfold nG kM at hv |-
    grind
   ·cases h
  case slice t x lo hi mx=>
   simp only[gH]at h |-
   split at h
   ·refine k (λv hv=>?_) h;unfold kf at hv |-
    rename_i q _;cases q<;>simp only at hv |- <;>first|exact hv|skip
    all_goals grind
   ·cases h
  case indexAddr t x i=>
   simp only[gH]at h |-
   split at h
   ·refine k (λv hv=>?_) h;unfold eC at hv |-
    rename_i q j _ _;cases j<;>simp only at hv |- <;>first|exact hv|skip
    cases he:dy P t with
    |none=>
     rw[he]at hv;simp only at hv |-
     cases ha:tF P t with
     |none=>grind
     |some me=>
      obtain⟨m,e⟩:=me;rw[ha]at hv;simp only at hv |-
      cases hz:cK P e with
      |none=>grind
      |some sz=>
       grind
    |some e'=>
     grind
   ·cases h
  case call c=>
   obtain⟨callee,args,ts⟩:=c;cases callee with
   |value f=>cases hl
   |invoke r m=>cases hl
   |builtin b=>cases b<;>simp only[]at hl<;>first|(cases hl;done)|(exact absurd rfl ja)
theorem wy{s:St}{w:World}{G:bS}(hs:eG G s w)(b:gM): ∀id c,bn s.heap id=some c->bn ((s.bN,b)::s.heap) id=some c:=λid c hg=>by
 simp only[df,cG];rw[fN (λe=>by
  subst e;have:=hs.lt _ _ hg;omega)]
 exact hg
theorem Iu.later{s s':St}{w w':World}{G G':bS}{tmps R6:Array Value}{i:Nat}(hs:eG G s w)(h:Iu P l G s w0 w tmps i)(hx:Ext G s w G' s' w')
  (ht: ∀t,iR l i=some t->R6[t]? =tmps[t]?):Iu P l G' s' w0 w' R6 i:=by
 obtain⟨o,t,ty,z,b,cs,e,h1,h2,h3,h4,h5,h6,h8,h9,Y4,WV⟩:=h;have hb:b<w.heap.size:=(VG.1 h6).1;refine⟨o,t,ty,z,b,cs,e,h1,h2,h3,h4,?_,?_,h8.mono hx.le,?_,?_,WV⟩
 ·grind [gK]
 ·rw[hx.keep b hb h9];exact h6
 ·rintro⟨id,blk,r,q1,q2,q3⟩;rcases hx.iY id r q2 with h|h|h
  ·rcases hx.ids id blk q1 with⟨b0,Gi⟩|L7
   ·exact h9 ⟨id,b0,r,Gi,h,q3⟩
   ·rw[hs.cj id L7]at h;cases h
  all_goals grind
 ·intro j;cases hj:G'.ig b j with
  |none=>rfl
  |some u=>
   rcases hx.jD b j u hj with h|h|h
   all_goals grind
theorem eG.WW{s:St}{w:World}{G:bS}(hs:eG G s w)(hx:Ext G0 s0 w0 G s w){b:Nat}{cs:Array Value}{e:TypeId}{z:AV}(hw:w.heap[b]? =some (.cells cs e (0,0)))(hv:VL G z.cells cs)
  (ym: ¬mF G s b) (hi: ∀j,G.ig b j=none) (hb:w0.heap.size<=b) (h0:0<z.cells.length) (kI:z.cells.all AV.cJ=true) (hd: ∀id,bn s0.heap id=some .gq->id≠s.bN):
  eG (G.put s.bN ⟨b,0,z.cells.length,cs.size⟩) ⟨(s.bN,.cells z.cells.length [z])::s.heap,s.bN+1⟩ w/\
  Ext G0 s0 w0 (G.put s.bN ⟨b,0,z.cells.length,cs.size⟩) ⟨(s.bN,.cells z.cells.length [z])::s.heap,s.bN+1⟩ w/\ss G (G.put s.bN ⟨b,0,z.cells.length,cs.size⟩):=by
 have eR:ss G (G.put s.bN ⟨b,0,z.cells.length,cs.size⟩):=.put (hs.cj _ (fw _));have jF: ∀id bb,bn ((s.bN,gM.cells z.cells.length [z])::s.heap) id=some bb->(id=s.bN/\bb=.cells z.cells.length [z])\/(id≠s.bN/\bn s.heap id=some bb):=λid bb hg=>by
  grind [cG]
 have je: ∀id,id≠s.bN->(G.put s.bN ⟨b,0,z.cells.length,cs.size⟩).own id=G.own id:=λid fG=>by simp[bS.put,fG]
 have ot:(G.put s.bN ⟨b,0,z.cells.length,cs.size⟩).own s.bN=some ⟨b,0,z.cells.length,cs.size⟩:=by simp[bS.put]
 refine⟨⟨hs.lW,λid bb hg=>?_,λid fq b1 b2 r1 r2 h1 h2 o1 o2 fG=>?_,λid bb r o hg ho=>?_,λid nD=>?_,λid bb hg=>?_⟩,
  ⟨hx.le.trans eR,hx.os,hx.tape,hx.output,hx.size,hx.keep,hx.jD,λid r h=>?_,λid bb hg=>?_,AW hx.bN (Nat.le_succ _),λid nD=>?_,λid hl ho=>by have:=hx.bN;rw[je id (by omega)];exact hx.stay id hl ho,hx.drawn⟩,eR⟩
 ·rcases jF id bb hg with⟨rfl,rfl⟩|⟨fG,hg⟩
  ·exact .inl ⟨_,_,ot,hw,.cells _ _ _ _ rfl rfl h0 (by simp) (by simpa[de]using kI) (by simp[hv.1]) λk x hx=>by
    simp[de]at hx;obtain⟨u,e1,e2⟩:=hv.get hx;exact⟨u,by grind,e2.mono eR⟩⟩
  ·rcases hs.heap id bb hg with⟨r,o,e1,e2,e3⟩|⟨e1,e2⟩
   ·exact .inl ⟨r,o,by grind,e2,e3.mono eR⟩
   grind
 ·rcases jF id b1 h1 with⟨rfl,rfl⟩|⟨n1,g1⟩<;>rcases jF fq b2 h2 with⟨rfl,rfl⟩|⟨n2,g2⟩
  ·grind
  ·rw[ot]at o1;cases o1;rw[je _ n2]at o2;exactλe=>ym ⟨fq,b2,r2,g2,o2,e.symm⟩
  ·rw[ot]at o2;cases o2;rw[je _ n1]at o1;exactλe=>ym ⟨id,b1,r1,g1,o1,e⟩
  ·rw[je _ n1]at o1;rw[je _ n2]at o2;exact hs.apart id fq b1 b2 r1 r2 g1 g2 o1 o2 fG
 ·rcases jF id bb hg with⟨rfl,rfl⟩|⟨n1,g1⟩
  ·rw[ot]at ho;cases ho;exact hi o
  ·rw[je _ n1]at ho;exact hs.clear id bb r o g1 ho
 ·rw[je id (by grind)];exact hs.cj id (by grind)
 ·show id<s.bN+1;rcases jF id bb hg with⟨rfl,rfl⟩|⟨_,g⟩
  ·omega
  ·have:=hs.lt id bb g;omega
 ·by_cases nD:id=s.bN
  ·grind
  ·rw[je id nD]at h;exact hx.iY id r h
 ·rcases jF id bb hg with⟨rfl,rfl⟩|⟨_,g⟩
  ·exact .inr hx.bN
  ·exact hx.ids id bb g
 ·simp only[df,cG];rw[fN (λe=>hd id nD e.symm)];exact hx.gq id nD
theorem qp(hp:gS X P N l pre br){st st2:Step}(h1:st∈br)(h2:st2∈br)(h:st.idx=st2.idx):st=st2:=by
 obtain⟨i,hi,rfl⟩:=qZ h1;obtain⟨j,hj,rfl⟩:=qZ h2;have hn:=hp.perm.2.2;rw[List.nodup_iff_pairwise_ne]at hn;have aby:i=j:=by
  have h':(br.map Step.idx)[i]? =(br.map Step.idx)[j]?:=by grind
  grind [List.getElem?_inj]
 grind
theorem Y5(hp:gS X P N l pre br)(h0:eG G0 s0 w0): ∀(σ:List Step){E:Nat->Prop}{ds:List Step}{tr:List (Nat×Env×AV)}{bf:Env}{s:St}{a:Act}{w:World}{G:bS},
  pX P N ρ l pre br K iC G0 s0 w0 E ds σ tr bf s a w G->
  ∃ds' σ' Bg env' s' G',pX P N ρ l pre br K iC G0 s0 w0 E ds' σ' Bg env' s' a w G'/\ ∀st r,σ'=st::r->st.waits=true/\ ¬E st.idx
 | [],E,ds,tr,bf,s,a,w,G,h=>⟨ds,[],tr,bf,s,G,h,λ_ _ e=>by cases e⟩
 |st::r,E,ds,tr,bf,s,a,w,G,h=>by
  have mu:st∈br:=by rw[h.split];simp
  have Qi:=qo hp h.split;have tC:st.idx ∉ jG ds:=ky hp h.split (by simp);have fP:=h.run;have kc:=hp.perm.1 st mu;obtain⟨o,ho⟩: ∃o,l[st.idx]? =some o:=⟨_,dF kc⟩;have Kq:=gK ho;have Ce:br=(ds++[st])++r:=by rw[h.split];simp
  have xo: ∀j,j∈jG (ds++[st])↔j∈jG ds\/j=st.idx:=λj=>by simp[jG]
  cases st with
  |gP i note=>
   simp only[Step.idx]at *;simp only[An,ho]at fP;have vA:eY o.op=true:=hp.kinds _ mu o ho;have VU: ¬E i:=λhE=>by
     rcases h.sub i hE with hi|⟨hi,_⟩
     ·exact tC hi
     ·have:=qp hp (st:=.alloc i) (st2:=.gP i note) (by grind) mu rfl;cases this
   have go: ∀(env':Env)(Bg:List (Nat×Env×AV)),(∀t,iR l i≠some t->bn env' t=bn bf t)->(∀j,j≠i->qn Bg j=qn tr j)->An P l K r Bg env' s->
      WT P l pre br env' iC Bg s i-> ∃ds' σ' Bg env' s' G',pX P N ρ l pre br K iC G0 s0 w0 E ds' σ' Bg env' s' a w G'/\ ∀st r,σ'=st::r->st.waits=true/\ ¬E st.idx:=by
     intro env' Bg fG htr Im DT;refine Y5 hp h0 r (ds:=ds++[.gP i note]) (tr:=Bg) (bf:=env') (s:=s) (G:=G) ⟨Ce,Im,h.iB,h.ext,h.size,h.mr,h.known,h.lt,h.closed,λj hj=>?_,λst2 ja hw=>?_,h.s1,λj hj vf t ht x hx=>?_,λt ht=>?_,λj hj Iv=>?_,λi1 j1 h1 h2 h3 h4=>h.DS i1 j1 h1 h2 (by simp[h3]) (by simp[h4])⟩
     ·rcases h.sub j hj with hd|⟨hd,he⟩
      ·exact .inl ((xo j).2 (.inl hd))
      ·rcases pU.1 hd with hd|hd
       ·cases hd
       ·exact .inr ⟨hd,he⟩
     ·rcases oq.1 ja with ja|ja
      ·exact h.wait st2 ja hw
      ·simp at ja;subst ja;cases hw
     ·rcases(xo j).1 vf with vf|rfl
      ·rw[fG t λGB=>VU (by rw[gQ hp GB ht];exact hj)]at hx;exact h.s2 j hj vf t ht x hx
      ·exact absurd hj VU
     ·rw[fG t λGB=>ht i ((xo i).2 (.inr rfl)) GB];exact h.e0 t λj hj=>ht j ((xo j).2 (.inl hj))
     ·rcases(xo j).1 hj with vf|rfl
      ·obtain⟨oj,q1,q2,q3⟩:=h.Kp j vf Iv;have MC: ∀p∈iN pre j,p∈jG ds:=kP hp h.split vf;have sL:j≠i:=λe=>tC (e ▸ vf);have Y6: ∀t,oj.dst=some t->bn env' t=bn bf t:=λt ht=>fG t λGB=>sL (gQ hp (by rw[gK q1];exact ht) GB);refine⟨oj,q1,q2,?_⟩;rcases q3 with⟨g,e,v,p1,p2,p3,p4⟩|⟨g,p1⟩
       ·exact .inl ⟨g.put hp fG MC tC,e,v,λt x hx=>(p1 t x hx).put hp fG MC tC,p2,λt ht=>by rw[Y6 t ht];exact p3 t ht,λja=>by rw[htr j sL];exact p4 ja⟩
       ·exact .inr ⟨g.put hp fG MC tC,λt ht=>by rw[Y6 t ht];exact p1 t ht⟩
      ·exact DT
   have exec:(match gH P o.op (gm (iM o) bf) s with
      |some (v,_)=>An P l K r (if note then(i,gm (iM o) bf,v)::tr else tr) (eH o.dst v bf) s
      |none=>False)->F8 l pre (eH o.dst .any bf) iC i o true-> ∃ds' σ' Bg env' s' G',pX P N ρ l pre br K iC G0 s0 w0 E ds' σ' Bg env' s' a w G'/\ ∀st r,σ'=st::r->st.waits=true/\ ¬E st.idx:=by
     intro hx hg;split at hx
     case h_2=>cases hx
     rename_i v s1 hv;have WX:=ng vA hv;subst WX;have fG: ∀t,iR l i≠some t->bn (eH o.dst v bf) t=bn bf t:=λt ht=>by simp_all[gr]
     have oz: ∀t,iR l i≠some t->bn (eH o.dst v bf) t=bn (eH o.dst .any bf) t:=λt ht=>by simp_all[gr]
     refine go _ _ fG (λj hj=>?_) hx ⟨o,ho,vA,.inl ⟨hg.put hp oz Qi tC,gm (iM o) bf,v,λt x hx=>?_,hv,λt ht=>by rw[gr,ez ht],λja=>?_⟩⟩
     ·cases note
      ·rfl
      ·simp only[Ak,qn];grind
     ·obtain⟨q1,q2⟩:=Be hx;exact(Bf hp h ho (by simp[q1]) q2 tC).put hp fG Qi tC
     ·obtain⟨st,ja,rfl⟩:=ja;have:=qp hp ja mu rfl;cases this;simp[qn]
   have yu:(mG l o).guard=match o.guard with
      |none=>none
      |some (j,want)=>match(l[j]?).bind (·.dst)with
       |some d=>some (d,want)
       |none=>some (0,want):=rfl
   unfold Y3 at fP;rw[yu]at fP;cases DU:o.guard with
   |none=>
     simp only[DU,DQ]at fP;exact exec fP (by unfold F8;rw[DU])
   |some jw=>
     obtain⟨j,want⟩:=jw;have R7:=(qc.1 hp.grd) o (gN ho);simp only[DU]at R7;obtain⟨d,hd⟩:=Ar.1 R7;simp only[DU,hd,DQ]at fP;have DV: ∀x,bn bf d=some x->Gz x want=some false->An P l K r tr (eH o.dst (.dS []) bf) s-> ∃ds' σ' Bg env' s' G',pX P N ρ l pre br K iC G0 s0 w0 E ds' σ' Bg env' s' a w G'/\ ∀st r,σ'=st::r->st.waits=true/\ ¬E st.idx:=by
      intro x hx hgx WY;have fG: ∀t,iR l i≠some t->bn (eH o.dst (.dS []) bf) t=bn bf t:=λt ht=>by simp_all[gr]
      refine go _ _ fG (λ_ _=>rfl) WY ⟨o,ho,vA,.inr ⟨?_,λt ht=>by rw[gr,ez ht]⟩⟩;unfold F8;rw[DU];exact⟨d,x,hd,(Bf hp h ho (by simp[wv,DU,hd]) hx tC).put hp fG Qi tC,hgx⟩
     split at fP
     case h_3=>cases fP
     case h_2=>rename_i hb;exact DV _ hb rfl fP
     rename_i b hb;have hrd: ∀v,Rd l pre (eH o.dst v bf) iC i d (.bool b):=λv=>
      (Bf hp h ho (by simp[wv,DU,hd]) hb tC).put hp (λt ht=>by simp_all[gr]) Qi tC
     by_cases Tr:b=want
     ·exact exec (fP.1 Tr) (by
       unfold F8;rw[DU];exact⟨d,.bool b,hd,hrd _,by simp[Tr,Gz]⟩)
     ·exact DV _ hb (by simp[Gz,Tr]) (fP.2 (by cases b<;>cases want<;>simp_all))
  |gz i rn=>
   by_cases hE:E i
   · exfalso;rcases h.sub i hE with hi|⟨hi,_⟩
     ·exact tC hi
     ·have:=qp hp (st:=.alloc i) (st2:=.gz i rn) (by grind) mu rfl;cases this
   · exact⟨ds,_,tr,bf,s,G,h,λst r' e=>by cases e;exact⟨rfl,hE⟩⟩
  |alloc i=>
   by_cases hE:E i
   ·
     simp only[Step.idx]at *;rcases h.sub i hE with hi|⟨_,he⟩
     ·grind
     ·obtain⟨o',t,ty,z,b,cs,e,h1,h2,h3,h4,h5,h6,h8,h9,Y4,WV⟩:=he;rw[ho]at h1;cases h1;simp only[An,ho,h2,gH,h4]at fP;unfold B2 at fP;split at fP
      case h_2=>cases fP
      rename_i v s1 hq;split at hq
      case isFalse=>cases hq
      rename_i hc;cases hq;obtain⟨q1,q2,q3⟩:=h.iB.WW h.ext h6 h8 h9 Y4 WV hc.1 hc.2 (λid nD e=>by
       subst e;have h1:=h0.lt _ _ nD;have h2:=h.ext.bN;omega)
      have hdt:iR l i=some t:=by grind
      have fG: ∀t',iR l i≠some t'->bn (eH o.dst (.mp s.bN 0 0) bf) t'=bn bf t':=λt' ht=>by simp_all[gr]
      refine Y5 hp h0 r (ds:=ds++[.alloc i]) ⟨Ce,fP,q1,q2,h.size,?_,h.known.le q3,h.lt,h.closed,λj hj=>?_,λst2 ja hw=>?_,λt' x hx hn=>?_,λj hj vf t' ht x hx=>?_,λt' ht=>?_,λj hj Iv=>?_,λi1 j1 h1 h2 h3 h4=>h.DS i1 j1 h1 h2 (by simp[h3]) (by simp[h4])⟩
      ·have: ∀{dd:List Deferred},oV G s dd->oV (G.put s.bN ⟨b,0,z.cells.length,cs.size⟩) ⟨(s.bN,.cells z.cells.length [z])::s.heap,s.bN+1⟩ dd:=by
        intro dd
        induction dd with
        |nil=>intro _;trivial
        |cons d dd ih=>
         rintro⟨⟨id,r',a1,a2,a3,a4⟩,hr⟩;refine⟨⟨id,r',?_,q3.own _ _ a2,a3,a4⟩,ih hr⟩;simp only[df,cG];rw[fN (λe=>by subst e;rw[h.iB.cj _ (fw _)]at a2;cases a2)];exact a1
       exact this h.mr
      ·rcases h.sub j hj with hd|⟨hd,he⟩
       ·grind
       ·rcases pU.1 hd with hd|hd
        ·grind
        ·refine .inr ⟨hd,?_⟩;obtain⟨oj,tj,tyj,zj,bj,csj,ej,j1,j2,j3,j4,j5,j6,j8,j9,j10,j11⟩:=he;refine⟨oj,tj,tyj,zj,bj,csj,ej,j1,j2,j3,j4,j5,j6,j8.mono q3,?_,j10,j11⟩;have hji:i≠j:=λe=>by
          subst e;exact ky hp Ce hd ((xo _).2 (.inr rfl))
         rintro⟨id,blk,r',g1,g2,g3⟩;by_cases nD:id=s.bN
         ·subst nD;simp only[bS.put,Ak,Option.some.injEq]at g2;subst g2;simp only at g3;subst g3;exact h.DS i j hE hj (by simp) (by simp[hd]) hji t tj hdt (by grind [gK]) (by rw[h5,j5])
         ·simp only[bS.put,fN nD]at g2;simp only[df,cG]at g1;rw[fN (λe=>nD e.symm)]at g1;exact j9 ⟨id,blk,r',g1,g2,g3⟩
      ·rcases oq.1 ja with ja|ja
       ·exact h.wait st2 ja hw
       ·simp at ja;subst ja;exact hE
      ·obtain⟨p1,p2⟩:=h.s1 t' x hx hn;exact⟨p1,p2.mono q3⟩
      ·rcases(xo j).1 vf with vf|rfl
       ·rw[fG t' λGB=>tC (by grind [gQ])]at hx;exact(h.s2 j hj vf t' ht x hx).mono q3
       ·rw[hdt]at ht;cases ht;rw[gr,ez h3]at hx;cases hx;rw[Pz,h5];have:=V.mp (G:=G.put s.bN ⟨b,0,z.cells.length,cs.size⟩) s.bN 0 0 ⟨b,0,z.cells.length,cs.size⟩ (by simp[bS.put])
        grind
      ·rw[fG t' λGB=>ht i ((xo i).2 (.inr rfl)) GB];exact h.e0 t' λj hj=>ht j ((xo j).2 (.inl hj))
      ·rcases(xo j).1 hj with vf|rfl
       ·obtain⟨oj,q4,q5,q6⟩:=h.Kp j vf Iv;have MC: ∀p∈iN pre j,p∈jG ds:=kP hp h.split vf;have sL:j≠i:=λe=>tC (e ▸ vf);have Y6: ∀t,oj.dst=some t->bn (eH o.dst (.mp s.bN 0 0) bf) t=bn bf t:=λt ht=>fG t λGB=>sL (gQ hp (by grind [gK]) GB);refine⟨oj,q4,q5,?_⟩;rcases q6 with⟨g,e',v,p1,p2,p3,p4⟩|⟨g,p1⟩
        ·exact .inl ⟨g.put hp fG MC tC,e',v,λt x hx=>(p1 t x hx).put hp fG MC tC,yr q5 (wy h.iB _) p2,λt ht=>by grind,p4⟩
        ·exact .inr ⟨g.put hp fG MC tC,λt ht=>by grind⟩
       grind
   · exact⟨ds,_,tr,bf,s,G,h,λst r' e=>by cases e;exact⟨rfl,hE⟩⟩
end
end Go.Am
end
section
namespace Go.Am
open Go.RowKit
section
variable {X:Nat->Nat->Prop} {P:Program} {N:Nat} {ρ:Option Nat} {l:List Oper} {pre:List (List Nat)} {br:List Step} {K:Env->St->Prop} {iC:Env} {G0:bS} {s0:St} {w0:World}
theorem eG.grow{s:St}{w:World}{G:bS}(h:eG G s w)(o:Obj):eG G s (w.alloc o)/\Ext G s w G s (w.alloc o):=by
 refine⟨⟨⟨λb i v hi=>?_,h.lW.2⟩,λid b hg=>?_,h.apart,h.clear,h.cj,h.lt⟩,⟨.refl G,rfl,rfl,rfl,by simp,λb hb _=>Below.heap_alloc _ _ _ hb,λ_ _ _ h=>.inl h,λ_ _ h=>.inl h,λ_ _ h=>.inl ⟨_,h⟩,fw _,λ_ h=>h,λ_ _ h=>h,fw _⟩⟩
 ·have hb:=h.qg hi;rw[vo hb];exact h.ig b i v hi
 ·rcases h.heap id b hg with⟨r,o',e1,e2,e3⟩|e
  all_goals grind [Below.heap_alloc]
theorem Iw{p q:Nat->Bool}: ∀{l:List Nat},(∀x∈l,q x=true->p x=true)-> ∀{i},i∈l->p i=true->q i=false->(l.filter q).length<(l.filter p).length
 | [],_,i,hi,_,_=>by cases hi
 |x::r,h,i,hi,hp,hq=>by
  have eR: ∀{l:List Nat},(∀x∈l,q x=true->p x=true)->(l.filter q).length<=(l.filter p).length:=λ{l}h=>by
   induction l with
   |nil=>simp
   |cons y t ih=>
    grind
  simp only[YQ];rcases pU.1 hi with rfl|hi
  ·grind
  ·have ih:=Iw (l:=r) (λz hz=>h z (by simp[hz])) hi hp hq
   grind
theorem yw{v:Value}{x:AV}(h:ofValue v=some x):x≠ .any:=by
 unfold ofValue at h;split at h
 ·grind
 ·unfold xT at h
  grind
theorem Cf{t:Nat}{x:AV}(h:iT P t=some x):x≠ .any:=by
 unfold iT at h
 grind [yw]
theorem rp{ops:Array Oper}(hl:ops.toList=l){E:Nat->Prop}{ds σ:List Step}{tr:List (Nat×Env×AV)}{bf:Env}{s:St}{a:Act}{w:World}{G:bS}(hp:gS X P N l pre br)
  (h:pX P N ρ l pre br K iC G0 s0 w0 E ds σ tr bf s a w G) {i:Nat} {o:Oper} {b:Bool} (hg:F8 l pre bf iC i o b) (mM: ∀p∈iN pre i,E p) (hd: ∀p∈iN pre i,p∈jG ds) (yq: ¬E i):
  Region.wanted o (yielded ops a.tmps)=b:=by
 unfold F8 at hg;unfold Region.wanted;split at hg
 ·grind
 ·rename_i j want hq;obtain⟨d,x,h1,h2,h3⟩:=hg;obtain⟨q1,q2⟩:=Cd hp h h2 mM hd yq;rw[hq];unfold Gz at h3;have hyy:yielded ops a.tmps j=match a.tmps.getD d undef with
    |.bool b=>some b
    |_=>none:=by
   unfold yielded;have:(ops[j]?).bind (·.dst)=some d:=by
    rw[<-h1];unfold iR;grind
   rw[this];simp only[cN];have kc:d<a.tmps.size:=by rw[h.size];exact q1
   rw[Pz,RV kc,J1]
   grind
  generalize a.tmps.getD d undef=v at q2 hyy;split at h3
  ·rename_i c want;cases q2;simp_all
  ·cases q2
   grind
  ·cases h3
theorem jf{a:Act}{d:Option Nat}{v:Value}{t:Nat}(h:d≠some t):(a.put d v).tmps.getD t undef=a.tmps.getD t undef/\(a.put d v).tmps[t]? =a.tmps[t]?:=by
 cases d with
 |none=>exact⟨rfl,rfl⟩
 |some d=>
  have fG:d≠t:=λe=>h (by rw[e]);simp only[Act.put];simp_all
theorem lQ{a:Act}{t:Nat}{v:Value}(h:t<a.tmps.size):(a.put (some t) v).tmps.getD t undef=v/\(a.put (some t) v).tmps[t]? =some v:=by
 simp[Act.put,Pz,h]
theorem yx(a:Act)(d:Option Nat)(v:Value):(a.put d v).tmps.size=a.tmps.size:=by cases d<;>simp[Act.put]
theorem qq(a:Act)(d:Option Nat)(v:Value):(a.put d v).defers=a.defers:=by cases d<;>rfl
theorem yy{E:Nat->Prop}{ds σ:List Step}{tr:List (Nat×Env×AV)}{bf:Env}{s:St}{a:Act}{w w':World}{G G':bS}(hp:gS X P N l pre br)(h0:eG G0 s0 w0)
  (h:pX P N ρ l pre br K iC G0 s0 w0 E ds σ tr bf s a w G) {i:Nat} {o:Oper} (ho:l[i]? =some o) (hi:i∈jG ds) (yq: ¬E i) (mM: ∀p∈iN pre i,E p) {v:Value}
  (hv: ∀t,o.dst=some t-> ∀x,bn bf t=some x->V G' x v) (hs:eG G' s w') (hx:Ext G s w G' s w') {E':Nat->Prop} (hE: ∀j,E' j↔E j\/j=i):
  pX P N ρ l pre br K iC G0 s0 w0 E' ds σ tr bf s (a.put o.dst v) w' G':=by
 have Kq:=gK ho;refine⟨h.split,h.run,hs,h.ext.trans h0 hx,by rw[yx];exact h.size,by rw[qq];exact h.mr.ext hx,h.known.le hx.le,λj hj=>?_,λj hj p mj=>?_,λj hj=>?_,λst ja hw=>(hE _).2 (.inl (h.wait st ja hw)),λt x Cg hn=>?_,λj hj vf t ht x Cg=>?_,h.e0,λj hj Iv=>?_,λi1 j1 h1 h2 h3 h4 sL t1 t2 d1 d2=>?_⟩
 ·rcases(hE j).1 hj with hj|rfl
  ·exact h.lt j hj
  grind
 ·rcases(hE j).1 hj with hj|rfl
  ·exact(hE p).2 (.inl (h.closed j hj p mj))
  grind
 ·rcases(hE j).1 hj with hj|rfl
  ·rcases h.sub j hj with hd|⟨hd,he⟩
   ·exact .inl hd
   ·refine .inr ⟨hd,he.later h.iB hx λt ht=>(jf λe=>?_).2⟩
    grind [gQ]
  grind
 ·have h1:o.dst≠some t:=λe=>hn i ((hE i).2 (.inr rfl)) (by grind);rw[(jf h1).1];obtain⟨q1,q2⟩:=h.s1 t x Cg λj hj=>hn j ((hE j).2 (.inl hj));exact⟨q1,q2.mono hx.le⟩
 ·rcases(hE j).1 hj with hj|rfl
  ·have h1:o.dst≠some t:=λe=>by
    grind [gQ]
   rw[(jf h1).1];exact(h.s2 j hj vf t ht x Cg).mono hx.le
  ·rw[Kq]at ht;have kc:t<a.tmps.size:=by
    have h2:=(qc.1 hp.Ko) o (gN ho);rw[ht]at h2;rw[h.size];simpa[mY]using h2
   grind [lQ]
 ·exact h.Kp j hj λe=>Iv ((hE j).2 (.inl e))
 ·have tq: ∀{k tk},E' k->Step.alloc k∈σ->iR l k=some tk->E k/\(a.put o.dst v).tmps[tk]? =a.tmps[tk]?:=λ{k tk}hk MD Y7=>by
   rcases(hE k).1 hk with hk|rfl
   ·grind [jf,gQ]
   ·exact absurd hi (ky hp h.split MD)
  obtain⟨e1,e2⟩:=tq h1 h3 d1;obtain⟨e3,e4⟩:=tq h2 h4 d2;rw[e2,e4];exact h.DS i1 j1 e1 e3 h3 h4 sL t1 t2 d1 d2
theorem vB{E:Nat->Prop}{ds r:List Step}{st:Step}{tr:List (Nat×Env×AV)}{bf:Env}{s s':St}{a:Act}{w w':World}{G G':bS}(hp:gS X P N l pre br)(h0:eG G0 s0 w0)
  (h:pX P N ρ l pre br K iC G0 s0 w0 E ds (st::r) tr bf s a w G) {o:Oper} (ho:l[st.idx]? =some o) (yq: ¬E st.idx) (mM: ∀p∈iN pre st.idx,E p) {v:Value} {env':Env}
  (fG: ∀t,o.dst≠some t->bn env' t=bn bf t) (hv: ∀t,o.dst=some t-> ∀x,bn env' t=some x->V G' x v) (hs:eG G' s' w') (hx:Ext G s w G' s' w')
  (fP:An P l K r tr env' s') (WZ: ∀j∈jG ds,¬E j-> ∀oj e v,l[j]? =some oj->eY oj.op=true->gH P oj.op e s=some (v,s)->((∃st∈br,st=.gP j true)->qn tr j=some (e,v))->j ∉ iN pre st.idx->gH P oj.op e s'=some (v,s'))
  {E':Nat->Prop} (hE: ∀j,E' j↔E j\/j=st.idx):
  pX P N ρ l pre br K iC G0 s0 w0 E' (ds++[st]) r tr env' s' (a.put o.dst v) w' G':=by
 have Kq:=gK ho;have tC:st.idx ∉ jG ds:=ky hp h.split (by simp);have xo: ∀j,j∈jG (ds++[st])↔j∈jG ds\/j=st.idx:=λj=>by simp[jG]
 have oz: ∀t,iR l st.idx≠some t->bn env' t=bn bf t:=λt ht=>fG t (by grind);have mu:st∈br:=by rw[h.split];simp
 refine⟨by rw[h.split];simp,fP,hs,h.ext.trans h0 hx,by rw[yx];exact h.size,by rw[qq];exact h.mr.ext hx,h.known.le hx.le,λj hj=>?_,λj hj p mj=>?_,λj hj=>?_,λst2 ja hw=>?_,λt x Cg hn=>?_,λj hj vf t ht x Cg=>?_,λt ht=>?_,λj hj Iv=>?_,λi1 j1 h1 h2 h3 h4 sL t1 t2 d1 d2=>?_⟩
 ·rcases(hE j).1 hj with hj|rfl
  ·exact h.lt j hj
  grind
 ·rcases(hE j).1 hj with hj|rfl
  ·exact(hE p).2 (.inl (h.closed j hj p mj))
  grind
 ·rcases(hE j).1 hj with hj|rfl
  ·rcases h.sub j hj with hd|⟨hd,he⟩
   ·grind
   ·rcases pU.1 hd with hd|hd
    ·exfalso;rw[<-hd]at yq;exact yq hj
    ·refine .inr ⟨hd,he.later h.iB hx λt ht=>(jf λe=>?_).2⟩
     grind [gQ]
  grind
 ·rcases oq.1 ja with ja|ja
  ·exact(hE _).2 (.inl (h.wait st2 ja hw))
  grind
 ·have h1:o.dst≠some t:=λe=>hn st.idx ((hE _).2 (.inr rfl)) (by grind);rw[(jf h1).1];obtain⟨q1,q2⟩:=h.s1 t x Cg λj hj=>hn j ((hE j).2 (.inl hj));exact⟨q1,q2.mono hx.le⟩
 ·rcases(hE j).1 hj with hj|rfl
  ·have h1:o.dst≠some t:=λe=>by
    grind [gQ]
   rw[(jf h1).1];rw[fG t h1]at Cg;rcases(xo j).1 vf with vf|rfl
   ·exact(h.s2 j hj vf t ht x Cg).mono hx.le
   grind
  ·rw[Kq]at ht;have kc:t<a.tmps.size:=by
    have h2:=(qc.1 hp.Ko) o (gN ho);rw[ht]at h2;rw[h.size];simpa[mY]using h2
   grind [lQ]
 ·rw[oz t λGB=>ht st.idx ((xo _).2 (.inr rfl)) GB];exact h.e0 t λj hj=>ht j ((xo j).2 (.inl hj))
 ·have VU: ¬E j:=λe=>Iv ((hE j).2 (.inl e));rcases(xo j).1 hj with vf|rfl
  ·obtain⟨oj,q4,q5,q6⟩:=h.Kp j vf VU;have MC: ∀p∈iN pre j,p∈jG ds:=kP hp h.split vf;have sL:j≠st.idx:=λe=>tC (e ▸ vf);have Y6: ∀t,oj.dst=some t->bn env' t=bn bf t:=λt ht=>oz t λGB=>sL (gQ hp (by grind [gK]) GB);have hjp:j ∉ iN pre st.idx:=λe=>VU (mM j e);refine⟨oj,q4,q5,?_⟩;rcases q6 with⟨g,e',v',p1,p2,p3,p4⟩|⟨g,p1⟩
   ·exact .inl ⟨g.put hp oz MC tC,e',v',λt x hx=>(p1 t x hx).put hp oz MC tC,WZ j vf VU oj e' v' q4 q5 p2 p4 hjp,λt ht=>by grind,p4⟩
   ·exact .inr ⟨g.put hp oz MC tC,λt ht=>by grind⟩
  grind
 ·have DG:br=(ds++[st])++r:=by rw[h.split];simp
  have tq: ∀{k tk},E' k->Step.alloc k∈r->iR l k=some tk->E k/\(a.put o.dst v).tmps[tk]? =a.tmps[tk]?:=λ{k tk}hk MD Y7=>by
   rcases(hE k).1 hk with hk|rfl
   ·grind [jf,gQ]
   ·exact absurd ((xo _).2 (.inr rfl)) (ky (st:=.alloc st.idx) hp DG MD)
  obtain⟨e1,e2⟩:=tq h1 h3 d1;obtain⟨e3,e4⟩:=tq h2 h4 d2;rw[e2,e4];exact h.DS i1 j1 e1 e3 (by simp[h3]) (by simp[h4]) sL t1 t2 d1 d2
theorem Kr{ops:Array Oper}(hl:ops.toList=l)(hp:gS X P N l pre br)(h0:eG G0 s0 w0){Q:Exit->Env->St->Prop}(ro:Option Nat){ni:Nat}{dt:Array Bool}{ds r:List Step}{st:Step}{tr:List (Nat×Env×AV)}{bf:Env}{s:St}{a:Act}{w:World}{G:bS}
  (h:pX P N ρ l pre br K iC G0 s0 w0 (λi=>dt.getD i false=true) ds (st::r) tr bf s a w G) (hw:st.waits=true) {o:Oper} (ho:l[st.idx]? =some o) (yq: ¬dt.getD st.idx false=true) (mM: ∀p∈iN pre st.idx,dt.getD p false=true) (ga:st.idx ∉ jG ds)
  (hE: ∀j,(dt.setIfInBounds st.idx true).getD j false=true↔dt.getD j false=true\/j=st.idx)
  (go: ∀{ds' σ':List Step}{Bg:List (Nat×Env×AV)}{env':Env}{s':St}{a':Act}{w':World}{G':bS},
    pX P N ρ l pre br K iC G0 s0 w0 (λj=>(dt.setIfInBounds st.idx true).getD j false=true) ds' σ' Bg env' s' a' w' G'->wpAnyIn (tt ro) 0 P .any ops (im G0 N ρ s0 w0 Q) ni (dt.setIfInBounds st.idx true) a' w'):
  if Region.wanted o (yielded ops a.tmps)=true then o.wpIn (tt ro) 0 P a w (wpAnyIn (tt ro) 0 P .any ops (im G0 N ρ s0 w0 Q) ni (dt.setIfInBounds st.idx true)) (im G0 N ρ s0 w0 Q)else(∀f,o.about P w a.eval=some f->(tt ro).fn f)/\wpAnyIn (tt ro) 0 P .any ops (im G0 N ρ s0 w0 Q) ni (dt.setIfInBounds st.idx true) (a.put o.dst undef) w:=by
 have Kq:=gK ho;have mu:st∈br:=by rw[h.split];simp
 have R8: ∀p∈iN pre st.idx,p∈jG ds:=qo hp h.split;have fP:=h.run;have hrd: ∀t∈iM o++wv l o,∀x,bn bf t=some x->t<N/\V G x (a.tmps.getD t undef):=λt ht x hx=>Cd hp h (Bf hp h ho ht hx ga) mM R8 yq;cases st with
 |gP _ _=>cases hw
 |gz i rn=>
  simp only[Step.idx]at *;simp only[An,ho]at fP;unfold Y3 at fP;have Km:wj G N ρ (gm (iM o) bf) s a w:=⟨h.iB,λt x hx=>by
   obtain⟨m1,m2⟩:=Be hx;obtain⟨r1,r2⟩:=hrd t (by simp[m1]) x m2;exact⟨by rw[h.size];exact r1,r2⟩,h.size,h.mr,h.known⟩
  have exec:Gx P o.op (λv s'=>sK P l tr s' rn/\An P l K r tr (eH o.dst v bf) s') (gm (iM o) bf) s->o.wpIn (tt ro) 0 P a w (wpAnyIn (tt ro) 0 P .any ops (im G0 N ρ s0 w0 Q) ni (dt.setIfInBounds i true)) (im G0 N ρ s0 w0 Q):=by
   intro aas;refine Gy (K:=λv s'=>sK P l tr s' rn/\An P l K r tr (eH o.dst v bf) s') aas Km ro ?_;intro v G' x s' w' hv hs hx ⟨hc,hr⟩;refine go (vB (st:=.gz i rn) hp h0 h ho yq mM (env':=eH o.dst x bf) (λt ht=>by rw[gr,fN ht]) (λt ht y hy=>by simp_all[gr]) hs hx hr (λj hj Iv oj e u q1 q2 q3 q4 q5=>?_) hE);by_cases ja:kx oj.op=true
   ·exact nh ja q3
   ·have hk:br[ds.length]? =some (.gz i rn):=by rw[h.split];simp
    have Y8:=hp.MB ds.length (by grind) _ hk;simp only at Y8;obtain⟨stj,W0,rfl⟩:=mS.1 hj;have R9:stj∈br.take ds.length:=by rw[h.split];grind
    have h3:=Y8 stj R9;cases stj with
    |gP j note=>
     simp only at h3;rcases h3 oj q1 with h4|h4|⟨rfl,h4⟩
     ·grind
     ·exact absurd h4 q5
     ·exact yp hc j h4 (q4 ⟨_,JZ R9,rfl⟩) q1
    |gz j c=>exact absurd (h.wait _ W0 rfl) Iv
    |alloc j=>exact absurd (h.wait _ W0 rfl) Iv
  have W1:(mG l o).guard=match o.guard with
    |none=>none
    |some (j,want)=>match(l[j]?).bind (·.dst)with
     |some d=>some (d,want)
     |none=>some (0,want):=rfl
  rw[W1]at fP;cases DU:o.guard with
  |none=>
   simp only[DU,DQ]at fP;rw[ez (by simp[Region.wanted,DU])]
   grind
  |some jw=>
   obtain⟨j,want⟩:=jw;have R7:=(qc.1 hp.grd) o (gN ho);simp only[DU]at R7;obtain⟨d,hd⟩:=Ar.1 R7;simp only[DU,hd,DQ]at fP;have DV: ∀x,bn bf d=some x->Gz x want=some false->An P l K r tr (eH o.dst (.dS []) bf) s->_:=λx hx hgx WY=>by
    have Ts:F8 l pre bf iC i o false:=by
     unfold F8;rw[DU];exact⟨d,x,hd,Bf hp h ho (by simp[wv,DU,hd]) hx ga,hgx⟩
    have W2:=rp hl hp h Ts mM R8 yq;exact(by
     rw[fN (by grind)];exact⟨λ_ _=>trivial,go (vB (st:=.gz i rn) hp h0 h ho yq mM (env':=eH o.dst (.dS []) bf) (λt ht=>by rw[gr,fN ht]) (λt ht y hy=>by rw[gr,ez ht]at hy;cases hy;exact .dS [] #[] rfl (by simp)) h.iB (.refl _ _ _) WY (λj hj Iv oj e u q1 q2 q3 q4 q5=>q3) hE)⟩:if Region.wanted o (yielded ops a.tmps)=true then o.wpIn (tt ro) 0 P a w (wpAnyIn (tt ro) 0 P .any ops (im G0 N ρ s0 w0 Q) ni (dt.setIfInBounds i true)) (im G0 N ρ s0 w0 Q)else(∀f,o.about P w a.eval=some f->(tt ro).fn f)/\wpAnyIn (tt ro) 0 P .any ops (im G0 N ρ s0 w0 Q) ni (dt.setIfInBounds i true) (a.put o.dst undef) w)
   split at fP
   case h_3=>cases fP
   case h_2=>rename_i hb;exact DV _ hb rfl fP
   rename_i b hb;have Ts:F8 l pre bf iC i o (b==want):=by
    unfold F8;rw[DU];exact⟨d,.bool b,hd,Bf hp h ho (by simp[wv,DU,hd]) hb ga,rfl⟩
   have W2:=rp hl hp h Ts mM R8 yq;by_cases Tr:b=want
   ·grind
   ·exact DV _ hb (by simp[Gz,Tr]) (fP.2 (by cases b<;>cases want<;>simp_all))
 |alloc i=>
  simp only[Step.idx]at *;simp only[An,ho]at fP;obtain⟨k1,k2,k3⟩:=hp.kinds _ mu o ho;rw[ez (by simp[Region.wanted,k2])];split at fP
  case h_2=>cases fP
  rename_i v s' hv;obtain⟨nx,u,G',w',e1,e2,e3,e4,e5⟩:=rm (a:=a) h.iB (bf:=[]) (λt x hx=>by simp[df,cG]at hx) o hv;have W3: ∀id b,bn s.heap id=some b->bn s'.heap id=some b:=by
   cases Dv:o.op with
   |alloc t=>
    rw[Dv]at hv k1;obtain⟨z0,VV⟩:=Ar.1 k1;simp only[gH,VV]at hv
    ·unfold B2 at hv;split at hv
     ·cases hv;exact wy h.iB _
     ·cases hv
   |_=>rw[Dv]at k1;exact k1.elim
  refine⟨λ_ _=>trivial,?_⟩;rw[Oper.semAt_eq _ _ _ (λc=>by grind),e1];have LL:=vB (st:=.alloc i) hp h0 h ho yq mM (v:=u) (env':=eH o.dst v bf) (λt ht=>by rw[gr,fN ht]) (λt ht y hy=>by simp_all[gr]) e4 e5 fP
   (λj hj Iv oj e u q1 q2 q3 q4 q5=>yr q2 W3 q3) hE
  grind [Oper.uponIn_value,Oper.uponIn_skip]
theorem ME{ops:Array Oper}(hl:ops.toList=l): ∀(dt:Array Bool)(i:Nat),dt.size=l.length->i∈Region.ready .any ops dt->i<l.length/\dt.getD i false=false/\ ∀o,l[i]? =some o-> ∀p∈direct o,dt.getD p false=true:=by
 have dK:ops.size=l.length:=by grind
 intro dt i eB hi;unfold Region.ready at hi;rw[xQ,J2]at hi;obtain⟨h1,h2⟩:=hi;rw[dK]at h1;simp only[eU,sr]at h2;refine⟨h1,?_,λo ho p mj=>?_⟩
 ·grind
 ·have h3:=h2.2;have W4:ops[i]? =some o:=by grind
  rw[W4]at h3;simp only[iJ,J1,zD9,vm,sr]at h3;obtain⟨e,he,rfl⟩:=mS.1 mj
  grind
theorem Ks{ops:Array Oper}(hl:ops.toList=l)(hp:gS X P N l pre br): ∀(dt:Array Bool),dt.size=l.length->Region.ready .any ops dt=[]-> ∀i,i<l.length->dt.getD i false=true:=by
 have dK:ops.size=l.length:=by grind
 intro dt eB hr i
 induction i using Nat.strongRecOn with
 |_ i ih=>
  intro hi;apply Classical.byContradiction;intro hn;have mu:i∈Region.ready .any ops dt:=by
   unfold Region.ready;rw[xQ,J2];refine⟨by omega,?_⟩;obtain⟨o,ho⟩: ∃o,l[i]? =some o:=⟨_,dF hi⟩;have W4:ops[i]? =some o:=by grind
   have kc:i<dt.size:=by omega
   simp only[eU,sr,W4,iJ,J1,zD9,vm];refine⟨?_,λe he=>?_⟩
   ·grind
   ·by_cases hb:Region.binds .any e=true
    ·right;have hd:e.on∈direct o:=mS.2 ⟨e,xQ.2 ⟨by grind,hb⟩,rfl⟩;have abz:=(hp.Mz i (J2.2 hi) o ho).1 e.on hd
     grind
    grind
  grind
theorem Kt{ops:Array Oper}(hl:ops.toList=l)(hp:gS X P N l pre br)(h0:eG G0 s0 w0){Q:Exit->Env->St->Prop}(hQ: ∀bf s,K bf s->Q .normal bf s)(ro:Option Nat):
  ∀(ni:Nat)(dt:Array Bool)(ds σ:List Step)(tr:List (Nat×Env×AV))(bf:Env)(s:St)(a:Act)(w:World)(G:bS),dt.size=l.length->
    ((List.range l.length).filter λi=>!dt.getD i false).length<=ni->
    pX P N ρ l pre br K iC G0 s0 w0 (λi=>dt.getD i false=true) ds σ tr bf s a w G->(∀st r,σ=st::r->st.waits=true/\ ¬dt.getD st.idx false=true)->(∀x y,X x y->dt.getD x false=true)->
    wpAnyIn (tt ro) 0 P .any ops (im G0 N ρ s0 w0 Q) ni dt a w:=by
 have dK:ops.size=l.length:=by grind
 have fin: ∀(dt:Array Bool)(ds σ:List Step)(tr:List (Nat×Env×AV))(bf:Env)(s:St)(a:Act)(w:World)(G:bS),dt.size=l.length->
    pX P N ρ l pre br K iC G0 s0 w0 (λi=>dt.getD i false=true) ds σ tr bf s a w G->(∀st r,σ=st::r->st.waits=true/\ ¬dt.getD st.idx false=true)->
    (∀i,i<l.length->dt.getD i false=true)->im G0 N ρ s0 w0 Q .normal a w:=by
  intro dt ds σ tr bf s a w G eB h hn jB;have hσ:σ=[]:=by
    cases σ with
    |nil=>rfl
    |cons st r=>
     exfalso;exact(hn st r rfl).2 (jB _ (hp.perm.1 st (by rw[h.split];simp)))
  subst hσ;have ga: ∀i,i<l.length->i∈jG ds:=λi hi=>by
    rcases h.sub i (jB i hi)with hd|⟨hd,_⟩
    all_goals grind
  refine⟨G,bf,s,⟨h.iB,λt x hx=>?_,h.size,h.mr,h.known⟩,h.ext,hQ _ _ h.run⟩;by_cases hw: ∃i,iR l i=some t
  · obtain⟨i,hi⟩:=hw;have wx:=GA hi;refine⟨?_,h.s2 i (jB i wx) (ga i wx) t hi x hx⟩;obtain⟨o,ho⟩: ∃o,l[i]? =some o:=⟨_,dF wx⟩;have h2:=(qc.1 hp.Ko) o (gN ho);rw[gK ho]at hi;rw[hi]at h2;rw[h.size];simpa[mY]using h2
  · rw[h.e0 t λi _ hi=>hw ⟨i,hi⟩]at hx;obtain⟨q1,q2⟩:=h.s1 t x hx λi _ hi=>hw ⟨i,hi⟩;exact⟨by rw[h.size];exact q1,q2⟩
 have rdy:=ME hl;have GC:=Ks hl hp;intro ni
 induction ni with
 |zero=>
  intro dt ds σ tr bf s a w G eB hf h hn hX;have jB: ∀i,i<l.length->dt.getD i false=true:=λi hi=>by
    simp_all
  refine⟨?_,fin dt ds σ tr bf s a w G eB h hn jB⟩;cases hr:Region.ready .any ops dt with
  |nil=>rfl
  |cons i r=>
    obtain⟨q1,q2,_⟩:=rdy dt i eB (by rw[hr];simp)
    grind
 |succ ni ih=>
  intro dt ds σ tr bf s a w G eB hf h hn hX;refine⟨λhr=>fin dt ds σ tr bf s a w G eB h hn (GC dt eB hr),λi hi=>?_⟩;obtain⟨wx,R0,aat⟩:=rdy dt i eB hi;obtain⟨o,ho⟩: ∃o,l[i]? =some o:=⟨_,dF wx⟩;have W4:ops[i]? =some o:=by grind
  have yq: ¬dt.getD i false=true:=by grind
  have mM: ∀p∈iN pre i,dt.getD p false=true:=λp mj=>by
    obtain⟨_,h2⟩:=hp.Mz i (J2.2 wx) o ho;rcases(h2 p mj).2 with hd|⟨d,hd,R8⟩
    ·grind
    ·exact h.closed d (aat o ho d hd) p R8
  have B7:(dt.setIfInBounds i true).size=l.length:=by grind
  have kc:i<dt.size:=by omega
  have hE: ∀j,(dt.setIfInBounds i true).getD j false=true↔dt.getD j false=true\/j=i:=λj=>by
    simp only[Pz,Array.getElem?_setIfInBounds]
    grind
  have DJ:((List.range l.length).filter λj=>!(dt.setIfInBounds i true).getD j false).length<=ni:=by
    have:=Iw (p:=λj=>!dt.getD j false) (q:=λj=>!(dt.setIfInBounds i true).getD j false) (l:=List.range l.length) (λj _ hq=>by
     grind) (J2.2 wx) (by simp[R0]) (by grind)
    omega
  have go: ∀{ds' σ':List Step}{Bg:List (Nat×Env×AV)}{env':Env}{s':St}{a':Act}{w':World}{G':bS},
     pX P N ρ l pre br K iC G0 s0 w0 (λj=>(dt.setIfInBounds i true).getD j false=true) ds' σ' Bg env' s' a' w' G'->wpAnyIn (tt ro) 0 P .any ops (im G0 N ρ s0 w0 Q) ni (dt.setIfInBounds i true) a' w':=by
    grind [Y5]
  simp only[wpOpIn,W4];have Kq:=gK ho;by_cases ga:i∈jG ds
  ·
    have R8: ∀p∈iN pre i,p∈jG ds:=kP hp h.split ga;obtain⟨o',q1,vA,q3⟩:=h.Kp i ga yq;rw[ho]at q1;cases q1;rcases q3 with⟨hg,e,v,p1,p2,p3,_⟩|⟨hg,p1⟩
    ·rw[ez (rp hl hp h hg mM R8 yq)];have hve:iL G e a.tmps:=λt x hx=>by
      obtain⟨r1,r2⟩:=Cd hp h (p1 t x hx) mM R8 yq;exact⟨by rw[h.size];exact r1,r2⟩
     obtain⟨nx,u,G',w',e1,e2,e3,e4,e5⟩:=rm h.iB hve o p2;refine⟨λ_ _=>trivial,?_⟩;rw[Oper.semAt_eq _ _ _ (λc=>by intro e;rw[e]at vA;simp[eY]at vA),e1];have LL:=yy hp h0 h ho ga yq mM (v:=u) (λt ht x hx=>by grind) e4 e5 hE
     grind [Oper.uponIn_value,Oper.uponIn_skip]
    ·rw[fN (by grind [rp])];exact⟨λ_ _=>trivial,go (yy hp h0 h ho ga yq mM (λt ht x hx=>by rw[p1 t ht]at hx;cases hx;exact .dS [] #[] rfl (by simp)) h.iB (.refl _ _ _) hE)⟩
  ·
    have yu:i∈br.map Step.idx:=hp.perm.2.1 i (J2.2 wx);rw[h.split,F4,oq]at yu;rcases yu with yu|yu
    ·exact absurd yu ga
    ·cases σ with
     |nil=>cases yu
     |cons st r=>
      obtain⟨hw,abA⟩:=hn st r rfl;by_cases his:i=st.idx
      · subst his;exact Kr hl hp h0 ro h hw ho yq mM ga hE go
      ·
        have hir:i∈r.map Step.idx:=by
         grind
        obtain⟨st2,Ku,rfl⟩:=mS.1 hir;have hk:br[ds.length]? =some st:=by rw[h.split];simp
        have hws:=hp.waits ds.length (by grind) st hk hw st2 (by rw[h.split];simpa using Ku);rcases hws with ha|hpr|Cg
        ·cases st2 with
         |gP _ _=>cases ha
         |gz _ _=>cases ha
         |alloc i=>
          simp only[Step.idx]at *;have mu:Step.alloc i∈br:=by rw[h.split];simp[Ku]
          obtain⟨k1,k2,k3⟩:=hp.kinds _ mu o ho;rw[ez (by simp[Region.wanted,k2])];obtain⟨t,ht⟩:=Ar.1 k3;cases Dv:o.op with
          |alloc ty=>
           rw[Dv]at k1;simp only at k1;obtain⟨z,hz⟩:=Ar.1 k1;obtain⟨zv,PE,Ml⟩:=kv (BZ hz) w G;have DM:=VL.cells Ml (Cf (BZ hz));obtain⟨g1,g2⟩:=h.iB.grow (.cells zv.cells ty);refine⟨λ_ _=>trivial,?_⟩;have W5:(execOp a.eval o).run P w=.ok (.value (.pointer (some ⟨w.heap.size,0,none⟩))) (w.alloc (.cells zv.cells ty)):=by
            simp[execOp,Dv,Instr.alloc,PE,newVar,newRow]
           rw[Oper.semAt_eq _ _ _ (λc=>by grind),W5,Oper.uponIn_value];have Tp:t<a.tmps.size:=by
            have h2:=(qc.1 hp.Ko) o (gN ho);rw[ht]at h2;rw[h.size];simpa[mY]using h2
           refine go (ds':=ds) (σ':=st::r) (Bg:=tr) (env':=bf) (s':=s) (G':=G) ⟨h.split,h.run,g1,h.ext.trans h0 g2,by rw[yx];exact h.size,by rw[qq];exact h.mr,h.known,λj hj=>?_,λj hj p mj=>?_,λj hj=>?_,λst3 ja hw=>(hE _).2 (.inl (h.wait st3 ja hw)),λt' x Cg Y2=>?_,λj hj vf t' Gp x Cg=>?_,h.e0,λj hj Iv=>?_,λi1 j1 h1 h2 h3 h4 sL t1 t2 d1 d2=>?_⟩
           ·grind
           ·rcases(hE j).1 hj with hj|rfl
            ·exact(hE p).2 (.inl (h.closed j hj p mj))
            grind
           ·rcases(hE j).1 hj with hj|rfl
            ·rcases h.sub j hj with hd|⟨hd,he⟩
             ·exact .inl hd
             ·refine .inr ⟨hd,he.later h.iB g2 λt' Gp=>(jf λe=>?_).2⟩
              grind [gQ]
            ·refine .inr ⟨by simp[Ku],o,t,ty,z,w.heap.size,zv.cells,ty,ho,Dv,ht,hz,?_,?_,DM,?_,λj=>?_,h.ext.size⟩
             ·grind [lQ]
             ·show(w.heap.push _)[w.heap.size]? =_;simp
             ·rintro⟨id,blk,r',q1,q2,q3⟩;have:=h.iB.jE q1 q2;omega
             ·cases hj:G.ig w.heap.size j with
              |none=>rfl
              |some u=>have:=h.iB.qg hj;omega
           ·have h1:o.dst≠some t':=λe=>Y2 i ((hE i).2 (.inr rfl)) (by grind);rw[(jf h1).1];exact h.s1 t' x Cg λj hj=>Y2 j ((hE j).2 (.inl hj))
           ·rcases(hE j).1 hj with hj|rfl
            ·have h1:o.dst≠some t':=λe=>by
              grind [gQ]
             rw[(jf h1).1];exact h.s2 j hj vf t' Gp x Cg
            grind
           ·exact h.Kp j hj λe=>Iv ((hE j).2 (.inl e))
           ·have GB:iR l i=some t:=by grind
            have DW:(a.put o.dst (.pointer (some ⟨w.heap.size,0,none⟩))).tmps[t]? =some (.pointer (some ⟨w.heap.size,0,none⟩)):=by grind [lQ]
            have tq: ∀{k tk},dt.getD k false=true->Step.alloc k∈st::r->iR l k=some tk->(a.put o.dst (.pointer (some ⟨w.heap.size,0,none⟩))).tmps[tk]? =a.tmps[tk]?/\a.tmps[tk]?≠some (.pointer (some ⟨w.heap.size,0,none⟩)):=λ{k tk}hk MD Y7=>by
             refine⟨(jf λe=>?_).2,?_⟩
             ·grind [gQ]
             ·rcases h.sub k hk with hd|⟨_,he⟩
              ·exact absurd hd (ky hp h.split MD)
              ·obtain⟨ok,tk',tyk,zk,bk,csk,ek,k1,k2,k3,k4,k5,k6,_⟩:=he;have:tk'=tk:=by grind [gK]
               grind
            rcases(hE i1).1 h1 with g1|g1<;>rcases(hE j1).1 h2 with g2|g2
            ·rw[(tq g1 h3 d1).1,(tq g2 h4 d2).1];exact h.DS i1 j1 g1 g2 h3 h4 sL t1 t2 d1 d2
            all_goals grind
          |_=>rw[Dv]at k1;exact k1.elim
        all_goals grind
theorem DX{id:Nat}{ops:Array Oper}{Q:Exit->Env->St->Prop}{bf:Env}{s:St}(pre:List (List Nat))(br:List Step)(l:List Oper)(hl:ops.toList=l)(hm:P.follows .mixedOrders=true)(hp:Cc P N l pre br)
  (h:An P l (λbf s=>Q .normal bf s) br [] bf s):gY P N ρ (.region id ops true) Q bf s:=λG w a hn=>by
 refine wpIn_region_any hm ?_;have eB:ops.size=l.length:=by grind
 have hd:pX P N ρ l pre br (λbf s=>Q .normal bf s) bf G s w (λi=>(Array.replicate ops.size false).getD i false=true) [] br [] bf s a {w with drawn:=w.drawn+1} G:=by
  have ym: ∀i,¬(Array.replicate ops.size false).getD i false=true:=λi=>by
   simp only[Pz,Array.getElem?_replicate]
   grind
  exact⟨rfl,h,hn.iB.drew,Ext.drew G s w,hn.size,hn.mr,hn.known,λi hi=>absurd hi (ym i),λi hi=>absurd hi (ym i),λi hi=>absurd hi (ym i),(λst ja=>by cases ja),
   (λt x hx _=>by have:=hn.bf t x hx;rw[hn.size]at this;exact this),λi hi=>absurd hi (ym i),λt _=>rfl,(λi hi=>by cases hi),λi _ hi=>absurd hi (ym i)⟩
 obtain⟨ds',σ',Bg,env',s',G',h',mK⟩:=Y5 hp hn.iB br hd;exact Kt hl hp hn.iB (λ_ _ h=>h) _ ops.size _ ds' σ' Bg env' s' a _ G' (by simp[eB]) (by grind) h' mK λ_ _ h=>h.elim
end
end Go.Am
end
section
namespace Go.Am
open Go.RowKit
theorem eG.W6{G G':bS}{s s':St}{w w':World}{id:Nat}{blk:gM}(h:eG G ⟨(id,blk)::s.heap,s.bN⟩ w)(nD:id<s.bN)(ym:bn s.heap id=none)
  (h':eG G' s' w') (x:Ext G s w G' s' w'):eG G' ⟨(id,blk)::s'.heap,s'.bN⟩ w'/\Ext G ⟨(id,blk)::s.heap,s.bN⟩ w G' ⟨(id,blk)::s'.heap,s'.bN⟩ w':=by
 have abB:bn s'.heap id=none:=by
  cases hq:bn s'.heap id with
  |none=>rfl
  |some b=>
   rcases x.ids id b hq with⟨b0,e⟩|e
   all_goals grind
 have Ix:bn ((id,blk)::s.heap) id=some blk:=by simp[df,cG]
 rcases h.heap id blk Ix with⟨r,o,e1,e2,e3⟩|⟨en,em⟩
 case inr=>
  have jF: ∀{l:List (Nat×gM)}i b,bn ((id,blk)::l) i=some b->(i=id/\b=blk)\/(i≠id/\bn l i=some b):=λi b hg=>by
   grind [cG]
  have up: ∀i b,bn s.heap i=some b->bn ((id,blk)::s.heap) i=some b:=λi b hg=>by
   grind [cG]
  have en':=x.stay id nD en;have MF: ∀b,mF G s b->mF G ⟨(id,blk)::s.heap,s.bN⟩ b:=λb ⟨i,b',r',g1,g2,g3⟩=>⟨i,b',r',up i b' g1,g2,g3⟩;refine⟨⟨h'.lW,?_,?_,?_,h'.cj,?_⟩,⟨x.le,x.os,x.tape,x.output,x.size,?_,?_,?_,?_,x.bN,?_,x.stay,x.drawn⟩⟩
  ·intro i b hg;rcases jF i b hg with⟨rfl,rfl⟩|⟨_,hg⟩
   ·grind
   ·exact h'.heap i b hg
  ·intro i i' b b' r1 r2 h1 h2 o1 o2 fG;rcases jF i b h1 with⟨rfl,rfl⟩|⟨n1,g1⟩<;>rcases jF i' b' h2 with⟨rfl,rfl⟩|⟨n2,g2⟩
   ·grind
   ·grind
   ·grind
   ·exact h'.apart i i' b b' r1 r2 g1 g2 o1 o2 fG
  ·intro i b r1 j hg ho;rcases jF i b hg with⟨rfl,rfl⟩|⟨_,hg⟩
   ·grind
   ·exact h'.clear i b r1 j hg ho
  ·intro i b hg;show i<s'.bN;rcases jF i b hg with⟨rfl,rfl⟩|⟨_,hg⟩
   ·exact RU nD x.bN
   ·exact h'.lt i b hg
  ·intro b hb hn;exact x.keep b hb λe=>hn (MF b e)
  ·intro b o v hi;rcases x.jD b o v hi with g|g|g
   all_goals grind
  ·intro i r' hi;rcases x.iY i r' hi with g|g|g
   all_goals grind
  ·intro i b hg;rcases jF i b hg with⟨rfl,rfl⟩|⟨_,hg⟩
   ·grind
   ·rcases x.ids i b hg with⟨b0,g⟩|g
    all_goals grind
  ·intro i hi;rcases jF i .gq hi with⟨rfl,hb⟩|⟨n,g⟩
   ·grind
   ·have:=x.gq i g;simp_all[cG]
 have kc:r.block<w.heap.size:=h.jE Ix e1;have jF: ∀{l:List (Nat×gM)}i b,bn ((id,blk)::l) i=some b->(i=id/\b=blk)\/(i≠id/\bn l i=some b):=λi b hg=>by
  grind [cG]
 have up: ∀i b,bn s.heap i=some b->bn ((id,blk)::s.heap) i=some b:=λi b hg=>by
  grind [cG]
 have MG: ¬mF G s r.block:=by
  rintro⟨i,b,r',g1,g2,g3⟩;have fG:i≠id:=λe=>by grind
  exact h.apart i id b blk r' r (up i b g1) Ix g2 e1 fG g3
 have MF: ∀b,mF G s b->mF G ⟨(id,blk)::s.heap,s.bN⟩ b:=λb ⟨i,b',r',g1,g2,g3⟩=>⟨i,b',r',up i b' g1,g2,g3⟩;have far: ∀i b r',bn s'.heap i=some b->G'.own i=some r'->r'.block≠r.block:=λi b r' g1 g2 e=>by
  rcases x.iY i r' g2 with g|g|g
  ·rcases x.ids i b g1 with⟨b0,g0⟩|g0
   ·exact MG ⟨i,b0,r',g0,g,e⟩
   ·have:=h.cj i g0
    grind
  all_goals grind
 refine⟨⟨h'.lW,?_,?_,?_,h'.cj,?_⟩,⟨x.le,x.os,x.tape,x.output,x.size,?_,?_,?_,?_,x.bN,?_,x.stay,x.drawn⟩⟩
 ·intro i b hg;rcases jF i b hg with⟨rfl,rfl⟩|⟨_,hg⟩
  ·exact .inl ⟨r,o,x.le.own _ _ e1,by rw[x.keep _ kc MG];exact e2,e3.mono x.le⟩
  ·exact h'.heap i b hg
 ·intro i i' b b' r1 r2 h1 h2 o1 o2 fG;rcases jF i b h1 with⟨rfl,rfl⟩|⟨n1,g1⟩<;>rcases jF i' b' h2 with⟨rfl,rfl⟩|⟨n2,g2⟩
  ·grind
  ·rw[x.le.own _ _ e1]at o1;grind
  ·rw[x.le.own _ _ e1]at o2;grind
  ·exact h'.apart i i' b b' r1 r2 g1 g2 o1 o2 fG
 ·intro i b r1 j hg ho;rcases jF i b hg with⟨rfl,rfl⟩|⟨_,hg⟩
  ·rw[x.le.own _ _ e1]at ho;cases ho;cases hq:G'.ig r.block j with
   |none=>rfl
   |some v=>
    rcases x.jD _ _ _ hq with g|g|g
    ·rw[h.clear i b r j Ix e1]at g;cases g
    all_goals grind
  ·exact h'.clear i b r1 j hg ho
 ·intro i b hg;show i<s'.bN;rcases jF i b hg with⟨rfl,rfl⟩|⟨_,hg⟩
  ·exact RU nD x.bN
  ·exact h'.lt i b hg
 ·intro b hb hn;exact x.keep b hb λe=>hn (MF b e)
 ·intro b o v hi;rcases x.jD b o v hi with g|g|g
  all_goals grind
 ·intro i r' hi;rcases x.iY i r' hi with g|g|g
  all_goals grind
 ·intro i b hg;rcases jF i b hg with⟨rfl,rfl⟩|⟨_,hg⟩
  ·grind
  ·rcases x.ids i b hg with⟨b0,g⟩|g
   all_goals grind
 ·intro i hi;rcases jF i .gq hi with⟨rfl,hb⟩|⟨n,g⟩
  ·simp[df,cG,<-hb]
  ·have:=x.gq i g;simp_all[cG]
def jP:List Tmp->List AV->Env->Env
 |t::ts,x::xs,bf=>jP ts xs (dM bf t x)
 |_,_,bf=>bf
def iu(s:St)(id:Nat)(l:wc):St:=⟨dM s.heap id (.loop l),s.bN⟩
section
variable {P:Program} {N:Nat} {ρ:Option Nat} {Q:Exit->Env->St->Prop} {bf:Env} {s:St}
theorem iL.set{G:bS}{tmps:Array Value}(h:iL G bf tmps){t:Nat}{x:AV}{v:Value}(ht:t<tmps.size)(hv:V G x v):iL G (dM bf t x) (tmps.setIfInBounds t v):=λu y hy=>by
 rw[eK]at hy;split at hy
 ·simp_all
 ·rename_i he;obtain⟨e1,e2⟩:=h u y hy;simp_all
theorem iL.params{G:bS}: ∀(ts:List Tmp)(xs:List AV)(vs:List Value)(bf:Env)(tmps:Array Value),iL G bf tmps->(∀t∈ts,t<tmps.size)->xs.length=vs.length->
  (∀(i:Nat)x y,xs[i]? =some x->vs[i]? =some y->V G x y)->iL G (jP ts xs bf) ((ts.zip vs).foldl (λtmps(t,a)=>tmps.setIfInBounds t a) tmps)
 | [],xs,vs,bf,tmps,h,_,_,_=>by simpa[jP]using h
 |t::ts,[],[],bf,tmps,h,_,_,_=>by simpa[jP]using h
 |t::ts,x::xs,v::vs,bf,tmps,h,ht,hl,hv=>by
  simp only[jP,List.zip_cons_cons,VI];refine iL.params ts xs vs _ _ (h.set (ht t (by simp)) (hv 0 x v rfl rfl)) (λu hu=>by simpa using ht u (by simp[hu])) (by simpa using hl) (λi a b ha hb=>hv (i+1) a b (by simpa using ha) (by simpa using hb))
 |t::ts,x::xs,[],bf,tmps,h,_,hl,_=>by simp at hl
 |t::ts,[],v::vs,bf,tmps,h,_,hl,_=>by simp at hl
theorem wz: ∀(ts:List Tmp)(vs:List Value)(tmps:Array Value),((ts.zip vs).foldl (λtmps(t,a)=>tmps.setIfInBounds t a) tmps).size=tmps.size
 | [],vs,tmps=>by simp
 |t::ts,[],tmps=>by simp
 |t::ts,v::vs,tmps=>by simp only[List.zip_cons_cons,VI];rw[wz ts vs];simp
def qs(id:Nat)(Q:AV->St->Prop):Exit->Env->St->Prop
 |.normal,_,s=> ∃l,bn s.heap id=some (.loop l)/\Q (.bool true) (iu s id {l with state:=.ready,pending:=none})
 |.ret,_,s=> ∃l,bn s.heap id=some (.loop l)/\Q (.bool false) (iu s id {l with state:=.done,pending:=some .ret})
 |.exit i,_,s=> ∃l,bn s.heap id=some (.loop l)/\Q (.bool false) (iu s id {l with state:=.done,pending:=some (.exit i)})
 |_,_,_=>False
theorem rq{G:bS}{w:World}(h:eG G s w){id:Nat}{l:wc}{r:tx}(hg:bn s.heap id=some (.loop l))(ho:G.own id=some r):
  ∃fn tmps d,w.heap[r.block]? =some (.loop {state:=l.state,pending:=l.pending,fn:=fn,tmps:=tmps,params:=l.params.toArray,assign:=l.assign,body:=l.body,defers:=d})/\tmps.size=l.ntmps/\iL G l.bf tmps:=by
 obtain⟨o,e2,e3⟩:=h.at hg ho;cases e3 with
 |loop _ fn tmps d eB hV=>grind
theorem ru{G:bS}{w:World}(h:eG G s w){id:Nat}{l l':wc}{r:tx}{fn:FuncId}{tmps:Array Value}{d:Nat}(hg:bn s.heap id=some (.loop l))(ho:G.own id=some r)
  (hw:w.heap[r.block]? =some (.loop {state:=l.state,pending:=l.pending,fn:=fn,tmps:=tmps,params:=l.params.toArray,assign:=l.assign,body:=l.body,defers:=d}))
  (eB:tmps.size=l.ntmps) (hV:iL G l.bf tmps) (hl:l'={l with state:=l'.state,pending:=l'.pending}):
  eG G (iu s id l') (w.putObj r.block (.loop {state:=l'.state,pending:=l'.pending,fn:=fn,tmps:=tmps,params:=l.params.toArray,assign:=l.assign,body:=l.body,defers:=d}))/\
  Ext G s w G (iu s id l') (w.putObj r.block (.loop {state:=l'.state,pending:=l'.pending,fn:=fn,tmps:=tmps,params:=l.params.toArray,assign:=l.assign,body:=l.body,defers:=d})):=by
 refine h.turn (o:=.loop {state:=l'.state,pending:=l'.pending,fn:=fn,tmps:=tmps,params:=l.params.toArray,assign:=l.assign,body:=l.body,defers:=d}) hg ho (by simp) rfl rfl rfl
  (λb hb=>World.putObj_heap_other hb) (World.putObj_heap_same (VG.1 hw).1) ?_ (by simp)
 rw[hl];exact .loop _ fn tmps d eB hV
theorem Tt{id:Nat}{args:List AV}{K:AV->St->Prop}{l:wc}(hg:bn s.heap id=some (.loop l))(dK:args.length=l.params.length)(MH:(l.params.all λt=>decide (t<l.ntmps))=true)
  (h:gY P l.ntmps (some id) l.assign (J6 (λTu s1=> ∃l1,bn s1.heap id=some (.loop l1)/\l1.state=.ready/\
   gY P l.ntmps (some id) l.body (qs id K) Tu (iu s1 id {l1 with state:=.busy})) (λ_ _ _=>False)) (jP l.params args l.bf) s):ic P id args s K:=by
 intro o G w r vs hs ho hv;obtain⟨fn,tmps,d,hw,eB,hV⟩:=rq hs hg ho;refine⟨fn,_,l.assign,l.body,run_yield hw (by have:=hv.1;simp;omega),roundIn_of_wpIn trivial ?_⟩;have Tv:wi G (some id):=λi e=>by grind
 have W7:wY G (some id)=some r.block:=by simp[wY,ho]
 have W8:((l.params.toArray.zip vs).foldl (λtmps(t,a)=>tmps.setIfInBounds t a) tmps)=((l.params.zip vs.toList).foldl (λtmps(t,a)=>tmps.setIfInBounds t a) tmps):=by
  rw[<-Array.foldl_toList,Array.toList_zip]
 have abl: ∀t∈l.params,t<l.ntmps:=λt ht=>by grind
 have Km:wj G l.ntmps (some id) (jP l.params args l.bf) s {tmps:=(l.params.toArray.zip vs).foldl (λtmps(t,a)=>tmps.setIfInBounds t a) tmps,defers:=[]} w:=by
  rw[W8];exact⟨hs,hV.params l.params args vs.toList l.bf tmps (λt ht=>by grind) (by simpa using hv.1) (λi x y hx hy=>hv.2 i x y hx (by grind)),by rw[wz,eB],trivial,Tv⟩
 have h1:=h G w _ Km;rw[W7]at h1;refine wpIn_mono h1 ?_;rintro e a1 w1 ⟨G1,Tu,s1,n1,x1,q1⟩;cases e with
 |normal=>
  obtain⟨l1,g1,hr1,hb⟩:=q1;have Y9:=x1.le.own _ _ ho;obtain⟨fn1,abm,d1,DY,aau,hV1⟩:=rq n1.iB g1 Y9;obtain⟨t1,t2⟩:=ru n1.iB (l':={l1 with state:=.busy}) g1 Y9 DY aau hV1 rfl;refine⟨_,run_beginRound DY hr1,?_⟩;have n2:wj G1 l.ntmps (some id) Tu (iu s1 id {l1 with state:=.busy}) a1 _:=⟨t1,n1.bf,n1.size,n1.mr.ext t2,n1.known⟩;have h2:=hb G1 _ a1 n2;have Tw:wY G1 (some id)=some r.block:=by simp[wY,Y9]
  rw[Tw]at h2;refine wpIn_mono h2 ?_;rintro e a3 w3 ⟨G3,Qj,s3,n3,x3,q3⟩;have ho3:=x3.le.own _ _ Y9;have x03:=(x1.trans hs t2).trans hs x3;have fin: ∀(jump:Option Code)(l3:wc)(g3:bn s3.heap id=some (.loop l3)),K (.bool jump.isNone) (iu s3 id {l3 with state:=if jump.isNone then .ready else .done,pending:=jump})->
    ∃v w',(Instr.endRound r.block jump).run P w3=.ok v w'/\wZ G s w K (.returned v) w':=by
   intro jump l3 g3 hk;obtain⟨Za,Iy,d3,Sa,MI,hV3⟩:=rq n3.iB g3 ho3;obtain⟨u1,u2⟩:=ru n3.iB (l':={l3 with state:=if jump.isNone then .ready else .done,pending:=jump}) g3 ho3 Sa MI hV3 rfl;exact⟨_,_,run_endRound jump Sa,.bool jump.isNone,G3,_,_,rfl,.bool _,u1,x03.trans hs u2,hk⟩
  cases e with
  |normal=>obtain⟨l3,g3,hk⟩:=q3;exact fin none l3 g3 hk
  |ret=>obtain⟨l3,g3,hk⟩:=q3;exact fin (some .ret) l3 g3 hk
  |exit i=>obtain⟨l3,g3,hk⟩:=q3;exact fin (some (.exit i)) l3 g3 hk
  |goto t=>exact q3.elim
  |panic ch=>exact q3.elim
  |outgrown=>exact q3.elim
 |exit id=>exact q1.elim
 |goto t=>exact q1.elim
 |ret=>exact q1.elim
 |panic ch=>exact q1.elim
 |outgrown=>exact q1.elim
theorem Iz{G:bS}{w:World}(h:eG G s w): ∀{ds:List Deferred},oV G s ds-> ∀d∈ds,∀b,d.target=.collected b->b<w.heap.size
 | [],_,d,hd,_,_=>by cases hd
 |e::ds,⟨⟨id,r,a,b,c,_⟩,hr⟩,d,hd,x,hx=>by
  rcases pU.1 hd with rfl|hd
  ·rw[c]at hx;cases hx;exact h.jE a b
  ·exact Iz h hr d hd x hx
def Ch(P:Program)(N:Nat)(ρ:Option Nat)(Q:Exit->Env->St->Prop)(bf:Env)(id:Nat)(marks:List (Nat×gM))(s:St):Prop:=
 ∃l,bn s.heap id=some (.loop l)/\l.state≠ .busy/\(match l.pending with
  |none=>Q .normal bf ⟨marks++dZ s.heap id,s.bN⟩
  |some c=>gY P N ρ c Q bf ⟨marks++dZ s.heap id,s.bN⟩)
theorem MJ{g:Nat}(he:enters P g=true): ∀(args:Array Value)(w:World),(callFunc g args).run P w=.ok (.enter g args) w:=λargs w=>by
 unfold enters at he;split at he
 case h_2=>cases he
 rename_i fn Qf;simp only[eU,bne_iff_ne,qd]at he;have Mt: ¬fn.body=none:=by grind
 simp[callFunc,Qf,he.1,Mt]
theorem AB{g:Operand}{ps:Array Tmp}{assign body:Code}{gf:FuncId}{fi:List AV}(hg:oper bf g=some (.fn gf fi))(he:enters P gf=true)
  (h:dw P gf (.kK (s.bN+1)::fi) ⟨(s.bN+1,.loop ⟨bf,N,ps.toList,assign,body,.ready,none⟩)::s.heap,s.bN+2⟩
   (λ_ s'=>Ch P N none Q bf (s.bN+1) [(s.bN,.gq)] s')):gY P N none (.rangeFunc g ps assign body) Q bf s:=λG w a hn=>by
 refine wpIn_rangeFunc λfn _=>?_;have Ip:=eJ hn.bf hg;generalize hq:a.eval g=fv at Ip;cases Ip with
 |fn _ _ vs Qk LK=>
  have hs:=hn.iB;have aav:bn s.heap s.bN=none:=by
   cases hc:bn s.heap s.bN with
   |none=>rfl
   |some b=>exact absurd (hs.lt _ _ hc) (by omega)
  obtain⟨p1,p2⟩:=hs.put (o:=.deferred (some [])) (blk:=.gq) (r:=⟨w.heap.size,0,0,0⟩) rfl .gq;have R2:iL (bS.put G s.bN ⟨w.heap.size,0,0,0⟩) bf a.tmps:=hn.bf.mono p2.le;obtain⟨p3,p4⟩:=p1.put (o:=.loop {state:=.ready,pending:=none,fn:=fn,tmps:=a.tmps,params:=ps,assign:=assign,body:=body,defers:=w.heap.size})
   (blk:=.loop ⟨bf,N,ps.toList,assign,body,.ready,none⟩) (r:=⟨w.heap.size+1,0,0,0⟩) (by simp)
   (by
    have:=Holds.loop (G:=bS.put (bS.put G s.bN ⟨w.heap.size,0,0,0⟩) (s.bN+1) ⟨w.heap.size+1,0,0,0⟩) (r:=⟨w.heap.size+1,0,0,0⟩) ⟨bf,N,ps.toList,assign,body,.ready,none⟩ fn a.tmps w.heap.size hn.size (R2.mono (.put (p1.cj _ (fw _))));simp_all)
  generalize Zb:bS.put (bS.put G s.bN ⟨w.heap.size,0,0,0⟩) (s.bN+1) ⟨w.heap.size+1,0,0,0⟩=G2 at p3 p4;have gU:G2.own (s.bN+1)=some ⟨w.heap.size+1,0,0,0⟩:=by rw[<-Zb];simp[bS.put]
  have aaw:G2.own s.bN=some ⟨w.heap.size,0,0,0⟩:=by rw[<-Zb];simp[bS.put]
  generalize Kv:(w.alloc (.deferred (some []))).alloc (.loop {state:=.ready,pending:=none,fn:=fn,tmps:=a.tmps,params:=ps,assign:=assign,body:=body,defers:=w.heap.size})=w2 at p3 p4;have x02:=p2.trans hs p4;have Zc: ∀i,bn ((s.bN,gM.gq)::(s.bN+1,gM.loop ⟨bf,N,ps.toList,assign,body,.ready,none⟩)::s.heap) i=bn ((s.bN+1,gM.loop ⟨bf,N,ps.toList,assign,body,.ready,none⟩)::(s.bN,gM.gq)::s.heap) i:=λi=>by
   simp only[df,cG]
   grind
  have p5:eG G2 ⟨(s.bN,.gq)::(s.bN+1,.loop ⟨bf,N,ps.toList,assign,body,.ready,none⟩)::s.heap,s.bN+2⟩ w2:=p3.drop (λi b hb=>by grind) (fw _);have p6:eG G2 ⟨(s.bN+1,.loop ⟨bf,N,ps.toList,assign,body,.ready,none⟩)::s.heap,s.bN+2⟩ w2:=p5.drop (λi b hb=>by
   simp only[df,cG]at hb |-
   grind) (fw _)
  have Kw:(a.eval g)=.func (.func gf) #[] vs:=hq;refine⟨w.heap.size+1,[{target:=.collected w.heap.size,args:= #[]}],w2,{target:=.fn (.func gf) vs,args:= #[.func (.yield (w.heap.size+1)) #[] #[]]},w2,gf,
   #[.func (.yield (w.heap.size+1)) #[] #[]]++vs,w2,?_,?_,λ_ _=>trivial,?_,(λh=>by cases h),?_⟩
  ·rw[<-Kv];exact run_enterLoop_outer _ _ _ _ _
  ·simp only[resolve,Kw];simp[go_sem]
  ·simp[invoke,go_sem,MJ he]
  ·have MK:VL G2 (.kK (s.bN+1)::fi) (#[.func (.yield (w.heap.size+1)) #[] #[]]++vs):=by
    have l1:VL G2 [.kK (s.bN+1)] #[.func (.yield (w.heap.size+1)) #[] #[]]:=⟨rfl,λi x y hx hy=>by
     cases i with
     |zero=>simp at hx hy;subst hx;subst hy;exact .kK _ _ gU
     |succ i=>simp at hx⟩
    exact l1.append (VL.mono x02.le ⟨Qk,LK⟩)
   refine(qh (h G2 w2 _ p6 MK)).mono ?_;rintro e w3 ⟨v,G3,x,s3,rfl,hV3,Zd,VW,l,g3,ja,qt⟩;obtain⟨q1,q2⟩:=p5.W6 (s:=⟨(s.bN+1,.loop ⟨bf,N,ps.toList,assign,body,.ready,none⟩)::s.heap,s.bN+2⟩) (by simp) (by simp[df,cG,aav]) Zd VW;have DZ:=VW.le.own _ _ gU;have Tx:bn ((s.bN,gM.gq)::s3.heap) (s.bN+1)=some (.loop l):=by simp[df,cG,g3]
   obtain⟨Za,Iy,d3,Sa,MI,Ty⟩:=rq q1 Tx DZ;obtain⟨u1,u2⟩:=ru q1 (l':={l with state:=.exhausted}) Tx DZ Sa MI Ty rfl;have x05:Ext G2 ⟨(s.bN+1,.loop ⟨bf,N,ps.toList,assign,body,.ready,none⟩)::(s.bN,.gq)::s.heap,s.bN+2⟩ w2 G2 ⟨(s.bN,.gq)::(s.bN+1,.loop ⟨bf,N,ps.toList,assign,body,.ready,none⟩)::s.heap,s.bN+2⟩ w2:=
    Ext.drop (λi b hb=>by grind) (fw _) (λi hi=>by grind)
   have D0:Ext G s w G3 _ _:=((x02.trans hs x05).trans hs q2).trans hs u2;have D3: ∀i b,bn ([(s.bN,gM.gq)]++dZ s3.heap (s.bN+1)) i=some b->bn (iu ⟨(s.bN,.gq)::s3.heap,s3.bN⟩ (s.bN+1) {l with state:=.exhausted}).heap i=some b:=λi b hb=>by
    simp only[Al,xm,df,cG]at hb;simp only[iu,eK];by_cases h1:s.bN=i
    all_goals simp_all[cG,fO]
   have D4: ∀i,bn (iu ⟨(s.bN,.gq)::s3.heap,s3.bN⟩ (s.bN+1) {l with state:=.exhausted}).heap i=some .gq->bn ([(s.bN,gM.gq)]++dZ s3.heap (s.bN+1)) i=some .gq:=λi hi=>by
    simp only[iu,eK]at hi;split at hi
    all_goals simp_all[cG,fO]
   have n4:wj G3 N none bf ⟨[(s.bN,.gq)]++dZ s3.heap (s.bN+1),s3.bN⟩ {a with defers:={target:=.collected w.heap.size,args:= #[]}::a.defers} (w3.putObj (w.heap.size+1) (.loop {state:=.exhausted,pending:=l.pending,fn:=Za,tmps:=Iy,params:=l.params.toArray,assign:=l.assign,body:=l.body,defers:=d3})):=by
    refine⟨u1.drop D3 (fw _),hn.bf.mono D0.le,hn.size,⟨⟨s.bN,⟨w.heap.size,0,0,0⟩,by simp[df,cG],VW.le.own _ _ aaw,rfl,λd' LL b hb=>?_⟩,?_⟩,λi e=>by cases e⟩
    ·have:=Iz hs hn.mr d' LL b hb
     grind
    ·exact(hn.mr.ext D0).drop D4
   have Ci:Ext G s w G3 ⟨[(s.bN,.gq)]++dZ s3.heap (s.bN+1),s3.bN⟩ _:=D0.trans hs (Ext.drop D3 (fw _) D4);refine⟨l.pending,_,run_endLoop Sa ja,?_⟩;cases ML:l.pending with
   |none=>
    simp only[ML]at qt;rw[ML]at n4 Ci;exact⟨G3,bf,_,n4,Ci,qt⟩
   |some c=>
    simp only[ML]at qt;rw[ML]at n4 Ci;exact gY.later qt hs hn.known Ci n4
theorem yz{jr:Nat}{l0:wc}(LM:bn s.heap jr=some (.loop l0)){g:Operand}{ps:Array Tmp}{assign body:Code}{gf:FuncId}{fi:List AV}(hg:oper bf g=some (.fn gf fi))(he:enters P gf=true)
  (h:dw P gf (.kK s.bN::fi) ⟨(s.bN,.loop ⟨bf,N,ps.toList,assign,body,.ready,none⟩)::s.heap,s.bN+1⟩
   (λ_ s'=>Ch P N (some jr) Q bf s.bN [] s')):gY P N (some jr) (.rangeFunc g ps assign body) Q bf s:=λG w a hn=>by
 refine wpIn_rangeFunc λfn _=>?_;have Ip:=eJ hn.bf hg;generalize hq:a.eval g=fv at Ip;cases Ip with
 |fn _ _ vs Qk LK=>
  have hs:=hn.iB;obtain⟨r0,hr0⟩:=hn.known jr rfl;obtain⟨fn0,abn,d0,Y1,_,_⟩:=rq hs LM hr0;obtain⟨p3,p4⟩:=hs.put (o:=.loop {state:=.ready,pending:=none,fn:=fn,tmps:=a.tmps,params:=ps,assign:=assign,body:=body,defers:=d0})
   (blk:=.loop ⟨bf,N,ps.toList,assign,body,.ready,none⟩) (r:=⟨w.heap.size,0,0,0⟩) rfl
   (by
    have:=Holds.loop (G:=bS.put G s.bN ⟨w.heap.size,0,0,0⟩) (r:=⟨w.heap.size,0,0,0⟩) ⟨bf,N,ps.toList,assign,body,.ready,none⟩ fn a.tmps d0 hn.size (hn.bf.mono (.put (hs.cj _ (fw _))));simp_all)
  generalize Zb:bS.put G s.bN ⟨w.heap.size,0,0,0⟩=G2 at p3 p4;have gU:G2.own s.bN=some ⟨w.heap.size,0,0,0⟩:=by rw[<-Zb];simp[bS.put]
  generalize Kv:w.alloc (.loop {state:=.ready,pending:=none,fn:=fn,tmps:=a.tmps,params:=ps,assign:=assign,body:=body,defers:=d0})=w2 at p3 p4;have Kw:(a.eval g)=.func (.func gf) #[] vs:=hq;refine⟨w.heap.size,[],w2,{target:=.fn (.func gf) vs,args:= #[.func (.yield w.heap.size) #[] #[]]},w2,gf,
   #[.func (.yield w.heap.size) #[] #[]]++vs,w2,?_,?_,λ_ _=>trivial,?_,(λh=>by cases h),?_⟩
  ·rw[<-Kv,show(tt (wY G (some jr))).round=some r0.block from by simp[tt,wY,hr0]];simp_all[run_enterLoop_inner]
  ·simp only[resolve,Kw];simp[go_sem]
  ·simp[invoke,go_sem,MJ he]
  ·have MK:VL G2 (.kK s.bN::fi) (#[.func (.yield w.heap.size) #[] #[]]++vs):=by
    have l1:VL G2 [.kK s.bN] #[.func (.yield w.heap.size) #[] #[]]:=⟨rfl,λi x y hx hy=>by
     cases i with
     |zero=>simp at hx hy;subst hx;subst hy;exact .kK _ _ gU
     |succ i=>simp at hx⟩
    exact l1.append (VL.mono p4.le ⟨Qk,LK⟩)
   refine(qh (h G2 w2 _ p3 MK)).mono ?_;rintro e w3 ⟨v,G3,x,s3,rfl,hV3,Zd,VW,l,g3,ja,qt⟩;have DZ:=VW.le.own _ _ gU;obtain⟨Za,Iy,d3,Sa,MI,Ty⟩:=rq Zd g3 DZ;obtain⟨u1,u2⟩:=ru Zd (l':={l with state:=.exhausted}) g3 DZ Sa MI Ty rfl;have D0:Ext G s w G3 _ _:=(p4.trans hs VW).trans hs u2;have D3: ∀i b,bn ([]++dZ s3.heap s.bN) i=some b->bn (iu s3 s.bN {l with state:=.exhausted}).heap i=some b:=λi b hb=>by
    simp only[xm,fO]at hb;simp only[iu,eK]
    grind
   have D4: ∀i,bn (iu s3 s.bN {l with state:=.exhausted}).heap i=some .gq->bn ([]++dZ s3.heap s.bN) i=some .gq:=λi hi=>by
    simp only[iu,eK]at hi;split at hi
    all_goals simp_all[fO]
   have Ci:Ext G s w G3 ⟨[]++dZ s3.heap s.bN,s3.bN⟩ _:=D0.trans hs (Ext.drop D3 (fw _) D4);have n4:wj G3 N (some jr) bf ⟨[]++dZ s3.heap s.bN,s3.bN⟩ {a with defers:=[]++a.defers} (w3.putObj w.heap.size (.loop {state:=.exhausted,pending:=l.pending,fn:=Za,tmps:=Iy,params:=l.params.toArray,assign:=l.assign,body:=l.body,defers:=d3})):=
    ⟨u1.drop D3 (fw _),hn.bf.mono D0.le,hn.size,by simpa using(hn.mr.ext D0).drop D4,hn.known.le D0.le⟩
   refine⟨l.pending,_,run_endLoop Sa ja,?_⟩;cases ML:l.pending with
   |none=>
    simp only[ML]at qt;rw[ML]at n4 Ci;exact⟨G3,bf,_,n4,Ci,qt⟩
   |some c=>
    simp only[ML]at qt;rw[ML]at n4 Ci;exact gY.later qt hs hn.known Ci n4
end
end Go.Am
end
section
namespace Go.Am
open Go.RowKit
def yA(n:Nat)(p:Nat->Bool):Bool:=(List.range n).all p
def pg{α:Type}(o:Option α)(p:α->Bool):Bool:=match o with
 |some x=>p x
 |none=>true
theorem kg{α:Type}{o:Option α}{p:α->Bool}:pg o p=true↔ ∀x∈o,p x=true:=by
 cases o<;>simp[pg]
def jH(x:Nat)(l:List Nat):Bool:=l.any λy=>Nat.beq x y
theorem oA{x:Nat}{l:List Nat}:jH x l=true↔x∈l:=by
 simp only[jH,F5];simp_all
def Tz(l:List Oper)(pre:List (List Nat)):Bool:=yA l.length λi=>pg l[i]? λo=>
 (direct o).all (λp=>decide (p<i))&&(iN pre i).all λp=>decide (p<i)&&(jH p (direct o)||(direct o).any λd=>jH p (iN pre d))
def VX(a b:Option Nat):Bool:=match a,b with
 |some x,some y=>Nat.beq x y
 |_,_=>false
theorem D5{a b:Option Nat}{t:Nat}(ha:a=some t)(hb:b=some t):VX a b=true:=by subst ha;subst hb;exact Nat.beq_refl t
theorem Ql{a b:Option Nat}:VX a b=true-> ∃t,a=some t/\b=some t:=by
 unfold VX
 grind [Nat.eq_of_beq_eq_true]
def W9(l:List Oper):Bool:=yA l.length λi=>yA l.length λj=>!(VX (iR l i) (iR l j))||Nat.beq i j
def TA(l:List Oper)(pre:List (List Nat)):Bool:=yA l.length λi=>pg l[i]? λo=>(iM o++wv l o).all λt=>
 (iN pre i).any (λu=>VX (iR l u) (some t))||yA l.length λu=>!(VX (iR l u) (some t))||jH i (iN pre u)
def Sb(l:List Oper)(br:List Step):Bool:=br.all (λst=>decide (st.idx<l.length))&&yA l.length (λi=>jH i (br.map Step.idx))&&decide (br.map Step.idx).Nodup
def Qm(pre:List (List Nat))(br:List Step):Bool:=yA br.length λk=>pg br[k]? λst=>(iN pre st.idx).all λp=>jH p ((br.take k).map Step.idx)
def xB(xs:List (Nat×Nat))(x y:Nat):Bool:=xs.any λp=>Nat.beq p.1 x&&Nat.beq p.2 y
def TC(xs:List (Nat×Nat))(pre:List (List Nat))(br:List Step):Bool:=yA br.length λk=>pg br[k]? λst=>!st.waits||(br.drop (k+1)).all λst2=>st2.It||jH st.idx (iN pre st2.idx)||xB xs st.idx st2.idx
def TF(P:Program)(l:List Oper)(br:List Step):Bool:=br.all λst=>pg l[st.idx]? λo=>match st with
 |.gP _ _=>eY o.op
 |.gz _ _=>true
 |.alloc _=>(match o.op with|.alloc t=>(xU P t).isSome|_=>false)&&o.guard.isNone&&o.dst.isSome
def Qn(l:List Oper)(pre:List (List Nat))(br:List Step):Bool:=yA br.length λk=>pg br[k]? λst=>match st with
 |.gz h rn=>(br.take k).all λst2=>match st2 with
  |.gP j note=>pg l[j]? λo=>kx o.op||jH j (iN pre h)||(note&&jH j rn)
  |_=>true
 |_=>true
def GF(xs:List (Nat×Nat))(P:Program)(N:Nat)(l:List Oper)(pre:List (List Nat))(br:List Step):Bool:=
 Tz l pre&&W9 l&&mw N l&&jY l&&TA l pre&&Sb l br&&Qm pre br&&TC xs pre br&&TF P l br&&Qn l pre br
def D6(P:Program)(N:Nat)(l:List Oper)(pre:List (List Nat))(br:List Step):Bool:=GF [] P N l pre br
theorem kQ{n:Nat}{p:Nat->Bool}:yA n p=true↔ ∀i∈List.range n,p i=true:=by simp[yA,qc]
theorem Kx{xs:List (Nat×Nat)}{P:Program}{N:Nat}{l:List Oper}{pre:List (List Nat)}{br:List Step}(h:GF xs P N l pre br=true):gS (λx y=>xB xs x y=true) P N l pre br:=by
 simp only[GF,eU]at h;obtain⟨⟨⟨⟨⟨⟨⟨⟨⟨h1,h2⟩,h3⟩,h4⟩,h5⟩,h6⟩,h7⟩,h8⟩,h9⟩,Y4⟩:=h;refine⟨?_,?_,h3,h4,?_,?_,?_,?_,?_,?_⟩
 ·intro i hi o ho;have:=kg.1 (kQ.1 h1 i hi) o ho;simp_all[oA]
 ·intro i hi j hj t ht WU;have:=kQ.1 (kQ.1 h2 i hi) j hj;simp_all[D5]
 ·intro i hi o ho t ht;have:=qc.1 (kg.1 (kQ.1 h5 i hi) o ho) t ht;simp only[vm,F5]at this;rcases this with⟨u,hu,h⟩|h
  ·grind [Ql]
  ·refine .inr λu hu hd=>?_;have:=kQ.1 h u hu;simp_all[D5,oA]
 ·simp only[Sb,eU,qc,BW]at h6
  grind [oA,kQ]
 ·intro k hk st ja p hp;exact oA.1 (qc.1 (kg.1 (kQ.1 h7 k hk) st ja) p hp)
 ·intro k hk st ja hw st2 Ku;have:=kg.1 (kQ.1 h8 k hk) st ja;simp only[hw,pV,Ie,qc,vm,eU,sr,oA]at this
  grind
 ·intro st ja o ho;have:=kg.1 (qc.1 h9 st ja) o ho;cases st with
  |gP i n=>exact this
  |gz i c=>trivial
  |alloc i=>
   simp only[eU,Option.isNone_iff_eq_none]at this
   grind
 ·intro k hk st ja;have:=kg.1 (kQ.1 Y4 k hk) st ja;cases st with
  |gP i n=>trivial
  |alloc i=>trivial
  |gz h rn=>
   intro st2 Ku;have:=qc.1 this st2 Ku;cases st2 with
   |gP j note=>
    intro o ho;have:=kg.1 this o ho;simp only[vm,eU,oA]at this
    grind
   |gz i c=>trivial
   |alloc i=>trivial
theorem D7{P:Program}{N:Nat}{l:List Oper}{pre:List (List Nat)}{br:List Step}(h:D6 P N l pre br=true):Cc P N l pre br:=
 let q:=Kx h
 ⟨q.Mz,q.WS,q.Ko,q.grd,q.reads,q.perm,q.MA,λk hk st ja hw st2 h2=>(q.waits k hk st ja hw st2 h2).imp id (Or.imp id λe=>by cases e),q.kinds,q.MB⟩
end Go.Am
end
