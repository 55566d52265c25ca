/- The logic AM, E: rules of which generated walks are made. -/
import Derived.Test.YtpbahncblggodaaGreatAm26
import Derived.WalkSpells
import Derived.KernelRfl
import Derived.Laws.Externs
set_option linter.all false
section
namespace Go.Am
open Go.RowKit
def Gf(P:Program)(op:Op)(bI:Env)(s:St):Option (AV×St):=match op with
 |.buildSlice t len cA=>match lV bI cA.toList with
  |some l=>match fZ P t len l,eh P t with
   |some _,some e=>match dr P e with
    |some sz=>some (.ms s.bT 0 l.length,⟨(s.bT,.cells sz (l.map (·.2)))::s.heap,s.bT+1⟩)
    |none=>none
   |_,_=>none
  |none=>none
 |_=>none
section
variable {P:Program} {G:cg} {s s':St} {w:World} {bI:Env} {a:Act}
theorem Ci(hs:eL G s w)(he:jm G bI a.tmps){t len:Nat}{cA:Array (Nat×Operand)}{l:List (Nat×AV)}{x:AV}{e0 sz0:Nat}(hl:lV bI cA.toList=some l)(h:fZ P t len l=some x)(XX:eh P t=some e0)(QD:dr P e0=some sz0):
  tu P G s w (Instr.buildSlice t len (cA.map λ(i,x)=>(i,a.eval x))) (.ms s.bT 0 l.length) ⟨(s.bT,.cells sz0 (l.map (·.2)))::s.heap,s.bT+1⟩:=by
 have hp:=tQ he hl
 unfold fZ at h
 split at h
 case h_2=>cases h
 rename_i e hu
 split at h
 case h_2=>cases h
 rename_i sz z eC hz
 split at h
 case isFalse=>cases h
 rename_i hc
 obtain⟨rfl,h2,h3,h4,h5,h6⟩:=hc
 cases h
 obtain⟨zv,Oq,Lm⟩:=ke hz w G
 let zc:Array Value:=if l.length*sz=0 then #[]else zv.cells
 let c0:Array Value:=(Array.range (l.length*sz)).map (zc[· %zc.size]!)
 have Vs:VL G (List.replicate (l.length*sz) AV.any) c0:=⟨by simp[c0],λi x y hx _=>by
  rw[Xz]at hx
  split at hx
  ·cases hx;exact .any _
  ·cases hx⟩
 have pZ:=sM (sz:=sz) (st:=0) (cells:=List.replicate (l.length*sz) AV.any) h2 h3 (by simp)
 simp only[UY,RL,rN]at pZ
 obtain⟨ov,f1,f2⟩:=tP (place':=λi=>some (i*sz,sz)) (λi q hq=>hq) Vs hp pZ
 have iP: ∀y∈l.map (·.2),y.cells.length=sz:=λy hy=>by
  obtain⟨p,hp,rfl⟩:=jJ.1 hy
  exact(h3 p hp).1
 have dA:ov.size=l.length*sz:=by rw[<-f2.1,dF iP];simp
 rw[hu]at XX
 have QJ:=Option.some.inj XX
 subst QJ
 rw[eC]at QD
 have VD:=Option.some.inj QD
 subst VD
 have fB:(Instr.buildSlice t l.length (cA.map λ(i,x)=>(i,a.eval x))).run P w=.ok (.slice (some ⟨w.heap.size,0,none⟩) l.length l.length) (w.alloc (.cells ov e)):=by
  have Zv: ¬(2^24<l.length*sz):=by omega
  have Zw: ¬(16777216<l.length*sz):=by omega
  simp only[Instr.buildSlice,Sem.run_bind,run_underlying (fD hu),eo eC,Result.andThen_ok,gt_iff_lt,dM Zv,XA]
  have Jy:Instr.fill (λi=>some (i*sz,sz)) c0 (cA.toList.map λp=>(p.1,a.eval p.2))=some ov:=f1
  by_cases hN:l.length*sz=0
  ·rw[dD hN]
   simp only[c0,zc,dD hN]at Jy
   simp only[pure_bind,Jy]
   simp[newRow]
  ·rw[dM hN]
   simp only[c0,zc,dM hN]at Jy
   simp only[Sem.run_bind,Oq,Result.andThen_ok,Sem.run_pure,Jy]
   simp[newRow]
 have ku: ∀k y,(dn (l.map (·.2)))[k]? =some y-> ∃v,ov[k]? =some v/\V G y v:=λk y hk=>f2.get hk
 obtain⟨q1,q2⟩:=hs.put (o:=.cells ov e) (blk:=.cells sz (l.map (·.2))) (r:=⟨w.heap.size,0,sz,ov.size⟩) rfl
  (.cells _ _ _ _ rfl rfl h5 iP (λy hy=>by
   rw[dn,sF]at hy
   obtain⟨q,hq,hy⟩:=hy
   obtain⟨p,hp,rfl⟩:=jJ.1 hq
   exact kf (h3 p hp).2 y hy) (by rw[dA];simp) λk y hk=>by
   obtain⟨v,e1,e2⟩:=ku k y hk
   exact⟨v,by simpa using e1,e2.mono (.put (hs.ct _ (eF _)))⟩)
 refine⟨_,_,_,fB,?_,q1,q2⟩
 exact .ms s.bT 0 _ _ ⟨w.heap.size,0,sz,ov.size⟩ 0 (by simp[cg.put]) (eF _) (by rw[dA];simp) (λ_=>by simp)
theorem LY(hs:eL G s w)(he:jm G bI a.tmps)(o:Oper){x:AV}(h:Gf P o.op bI s=some (x,s')):Lt P G s w (execOp a.eval o) x s':=by
 unfold Gf at h
 obtain⟨dst,op,type,pos,after,guard⟩:=o
 simp only at h
 split at h
 case h_2=>cases h
 rename_i t len cA
 split at h
 case h_2=>cases h
 rename_i l hl
 split at h
 case h_2=>cases h
 rename_i y e hb XX
 split at h
 case h_2=>cases h
 rename_i sz eC
 cases h
 exact(Ci hs he hl hb XX eC).next
theorem JN{o:Oper}{r:AV×St}(h:Gf P o.op bI s=some r): ∃t len cA,o.op=.buildSlice t len cA:=by
 unfold Gf at h
 split at h
 ·rename_i hq;exact⟨_,_,_,hq⟩
 ·cases h
end
section
variable {P:Program} {N:Nat} {ρ:Option Nat} {Q:Exit->Env->St->Prop} {bI:Env} {s:St} {a:Act} {G:cg} {w:World}
def ZT(P:Program)(g:FuncId)(args:List AV)(s:St)(v:AV):Prop:= ∀G w vs,eL G s w->VL G args vs-> ∃val,(callFunc g vs).run P w=.ok (.value val) w/\V G v val
def V0(P:Program)(op:Op)(bI:Env)(s:St)(v:AV):Prop:= ∃f args g fQ l,ga op=some (f,args)/\oper bI f=some (.fn g fQ)/\opers bI args=some l/\ZT P g (l++fQ) s v
def Sr(P:Program)(o:Oper)(K:AV->St->Prop)(bI:Env)(s:St):Prop:=Vd P o K bI s\/(∃v s',Gf P o.op bI s=some (v,s')/\K v s')\/ ∃v,V0 P o.op bI s v/\K v s
theorem Gg{o:Oper}{K:AV->St->Prop}{next:Act->World->Prop}{R:Exit->Act->World->Prop}(h:Sr P o K bI s)(hn:xe G N ρ bI s a w)(ro:Option Nat)
  (hK: ∀v G' x s' w',V G' x v->eL G' s' w'->Ext G s w G' s' w'->K x s'->next (a.put o.dst v) w'):o.wpIn (vd ro) 0 P a w next R:=by
 rcases h with h|⟨x,s',hx,hk⟩|⟨x,⟨f,args,g,fQ,l,hc,hf,hl,hx⟩,hk⟩
 ·exact vm h hn ro hK
 case inr.inr=>
  refine⟨λ_ _=>trivial,?_⟩
  obtain⟨arr,ts,yb,rfl⟩:=AW hc
  have B6:o.semAt (vd ro).round a.eval=execOp a.eval o:=Oper.semAt_eq _ _ _ (λc=>by rw[yb];simp)
  rw[B6]
  have HH:=eM hn.bI hf
  have HI:=tG hn.bI hl
  generalize hq:a.eval f=fv at HH
  cases HH with
  |fn _ _ vs h1 h2=>
   obtain⟨val,e1,e2⟩:=hx G w _ hn.iQ (HI.append ⟨h1,h2⟩)
   have fB:(execOp a.eval o).run P w=.ok (.value val) w:=by
    simp[execOp,yb,resolve,Deferred.ofValue,hq,invoke,e1]
   rw[fB,Oper.uponIn_value]
   exact hK val G x s w e2 hn.iQ (.refl _ _ _) hk
 ·refine⟨λ_ _=>trivial,?_⟩
  obtain⟨t,len,cA,yb⟩:=JN hx
  have B6:o.semAt (vd ro).round a.eval=execOp a.eval o:=Oper.semAt_eq _ _ _ (λc=>by rw[yb];simp)
  rw[B6]
  obtain⟨nx,v,G',w',e1,e2,e3,e4,e5⟩:=LY hn.iQ hn.bI o hx
  rw[e1]
  rcases e2 with rfl|⟨rfl,rfl⟩
  ·rw[Oper.uponIn_value];exact hK v G' x s' w' e3 e4 e5 hk
  ·rw[Oper.uponIn_skip];exact hK undef G' x s' w' e3 e4 e5 hk
def Gh(P:Program)(N:Nat)(ops:Array Oper)(K:Env->St->Prop):List Oper->Env->St->Prop
 | [],bI,s=>K bI s
 |o::r,bI,s=>mE N o.dst=true/\XL ops o bI (Sr P o (λv s'=>Gh P N ops K r (fF o.dst v bI) s') bI s) (Gh P N ops K r (fF o.dst (.ec []) bI) s)
theorem sP{ops:Array Oper}{G0:cg}{s0:St}{w0:World}(h0:eL G0 s0 w0)(ro:Option Nat): ∀(l:List Oper)(k:Nat)(bI:Env)(s:St)(G:cg)(a:Act)(w:World),ops.toList.drop k=l->
  xe G N ρ bI s a w->Ext G0 s0 w0 G s w->Gh P N ops (λbI s=>Q .normal bI s) l bI s->wpOpsIn (vd ro) 0 P ops (ia G0 N ρ s0 w0 Q) (List.range' k l.length) a w
 | [],k,bI,s,G,a,w,_,hn,hx,h=>⟨G,bI,s,hn,hx,h⟩
 |o::r,k,bI,s,G,a,w,hl,hn,hx,h=>by
  have ho:ops[k]? =some o:=by
   have:=fA (λl:List Oper=>l[0]?) hl
   simpa[KS]using this
  have hr:ops.toList.drop (k+1)=r:=by rw[<-List.drop_drop,hl];rfl
  obtain⟨hd,h⟩:=h
  rw[oG,List.range'_succ]
  simp only[wpOpsIn,ho]
  rcases JA h hn.bI with⟨hw,h⟩|⟨hw,h⟩
  ·rw[dD hw]
   exact Gg h hn ro λv G' x s' w' hv hs he hk=>sP h0 ro r (k+1) _ _ G' _ w' hr (hn.put hd hv hs he) (hx.trans h0 he) hk
  ·rw[dM (by simp[hw])]
   exact⟨λ_ _=>trivial,sP h0 ro r (k+1) _ _ G _ w hr (hn.put hd (.ec [] #[] rfl (by simp)) hn.iQ (.refl _ _ _)) hx h⟩
theorem D3{id:Nat}{ops:Array Oper}(h:Gh P N ops (λbI s=>Q .normal bI s) ops.toList bI s):lT P N ρ (.region id ops false) Q bI s:=λG w a hn=>by
 refine wpIn_region ?_
 rw[YX]
 exact sP hn.iQ _ ops.toList 0 bI s G a w rfl hn (.refl _ _ _) h
def Pa(P:Program)(op:Op)(K:AV->St->Prop)(bI:Env)(s:St):Prop:=ows P op K bI s\/(∃v s',Gf P op bI s=some (v,s')/\K v s')\/ ∃v,V0 P op bI s v/\K v s
def qt(P:Program)(K:Env->St->Prop):List Ins->Env->St->Prop
 | [],bI,s=>K bI s
 |i::r,bI,s=>FE i.guard bI (Pa P i.op (λv s'=>qt P K r (fF i.dst v bI) s') bI s) (qt P K r (fF i.dst (.ec []) bI) s)
theorem tW{ops:Array Oper}{K:Env->St->Prop}(hg:nS ops.toList=true): ∀{l:List Oper}{bI:Env}{s:St},(∀o∈l,o∈ops.toList)->qj N l=true->
  qt P K (l.map (l6 ops.toList)) bI s->Gh P N ops K l bI s
 | [],_,_,_,_,h=>h
 |o::r,bI,s,hm,hd,h=>by
  simp only[qj,Xt,fi]at hd
  have ih: ∀{bI:Env}{s:St},qt P K (r.map (l6 ops.toList)) bI s->Gh P N ops K r bI s:=tW hg (λo ho=>hm o (by simp[ho])) hd.2
  refine⟨hd.1,?_⟩
  simp only[xb,qt]at h
  have V1: ∀{bI:Env}{s:St},Pa P o.op (λv s'=>qt P K (r.map (l6 ops.toList)) (fF o.dst v bI) s') bI s->Sr P o (λv s'=>Gh P N ops K r (fF o.dst v bI) s') bI s:=by
   intro bI s h
   rcases h with h|⟨v,s',hx,hk⟩|⟨v,hx,hk⟩
   case inr.inl=>exact .inr (.inl ⟨v,s',hx,ih hk⟩)
   case inr.inr=>exact .inr (.inr ⟨v,hx,ih hk⟩)
   refine .inl ?_
   unfold ows at h
   unfold Vd
   split at h
   ·rename_i f args hc
    simp only[hc]
    split at h
    ·rename_i g fQ l h1 h2
     simp only[h1,h2]
     exact⟨h.1,h.2.mono λ_ _ hk=>ih hk⟩
    ·rename_i id l h1 h2
     simp only[h1,h2]
     exact h.mono λ_ _ hk=>ih hk
    ·cases h
   ·rename_i hc
    simp only[hc]
    split at h
    ·rename_i v s' hx
     simp only[hx]
     exact ih h
    ·cases h
  have QH:=(pT.1 hg) o (hm o (by simp))
  unfold XL
  unfold l6 FE at h
  cases hq:o.guard with
  |none=>simp only[hq]at h |-;exact V1 h
  |some jw=>
   obtain⟨j,want⟩:=jw
   simp only[hq]at h QH |-
   obtain⟨d,uX⟩:=AM.1 QH
   rw[show ops[j]? =ops.toList[j]? from by simp]
   rw[uX]at h |-
   simp only at h |-
   split at h
   ·rename_i b hb
    simp only[hb]
    exact⟨λe=>V1 (h.1 e),λe=>ih (h.2 e)⟩
   ·rename_i hb
    simp only[hb]
    exact ih h
   ·cases h
theorem LZ{id:Nat}{ops:Array Oper}{K:Env->St->Prop}(l:List Oper)(hl:ops.toList=l)(hg:nS l=true)(hd:qj N l=true)(h:qt P (λbI s=>Q .normal bI s) (ins l) bI s):
  lT P N ρ (.region id ops false) Q bI s:=by
 subst hl
 exact D3 (tW hg (λ_ h=>h) hd h)
def ny:AV->Prop
 |.sl _ l=>l=[]
 |.ms _ _ n=>n=0
 |_=>False
def qu(P:Program)(op:Op)(bI:Env):Option AV:=match op with
 |.binOp .eql t x (.const (.slice none 0 0)) _=>match eh P t,oper bI x with
  |some _,some (.sl b l)=>some (.sl b l)
  |some _,some (.ms i a n)=>some (.ms i a n)
  |_,_=>none
 |_=>none
theorem Pb{o:Oper}{x:AV}(hn:xe G N ρ bI s a w)(h:qu P o.op bI=some x): ∃b:Bool,(b=true->ny x)/\(execOp a.eval o).run P w=.ok (.value (.bool b)) w:=by
 unfold qu at h
 obtain⟨dst,op,type,pos,after,guard⟩:=o
 simp only at h
 split at h
 case h_2=>cases h
 rename_i t y yt
 have key: ∀{bR:Option Addr}{n cap:Nat}{b:Bool},a.eval y=.slice bR n cap->(binOp .eql t (.slice bR n cap) (.slice none 0 0)).run P w=.ok (.bool b) w->
   (execOp a.eval ⟨dst,.binOp .eql t y (.const (.slice none 0 0)) yt,type,pos,after,guard⟩).run P w=.ok (.value (.bool b)) w:=λ{bR n cap b}hq hr=>by
  have hc:a.eval (.const (.slice none 0 0))=.slice none 0 0:=rfl
  have hg:=qi (P:=P) (w:=w) (op:=.eql) (t:=t) (x:=y) (y:=.const (.slice none 0 0)) (xv:=.slice bR n cap) (yv:=.slice none 0 0) (.inr ⟨by simp,by simp⟩)
  simp only[execOp,hq,hc]
  simp[hg,hr]
 split at h
 ·rename_i e full l he hy
  cases h
  have hv:=eM hn.bI hy
  generalize hq:a.eval y=v at hv
  obtain⟨bR,cap,rfl,_,_,hb,hz⟩:=V.qf hv
  refine⟨bR.isNone,λe=>?_,?_⟩
  ·rcases hz with hz|⟨b,off,cB,val,hz,_⟩
   ·exact hz
   ·subst hz;cases e
  ·have:=Lib.run_eql_slice_nil (P:=P) w t e bR l.length cap 0 0 (fD he)
   exact key hq this
 ·rename_i e id st n he hy
  cases h
  have hv:=eM hn.bI hy
  generalize hq:a.eval y=v at hv
  cases hv with
  |ms _ _ _ cap r addr ho eE eZ ha=>
   refine⟨false,λe=>(by cases e),?_⟩
   have:=Lib.run_eql_slice_nil (P:=P) w t e (some ⟨r.block,addr,none⟩) n cap 0 0 (fD he)
   exact key hq this
  |gC _ _ cap bR hc=>
   refine⟨bR.isNone,λ_=>rfl,?_⟩
   have:=Lib.run_eql_slice_nil (P:=P) w t e bR 0 cap 0 0 (fD he)
   exact key hq this
 ·cases h
theorem Pc{c y:Code}{id:Nat}{ops:Array Oper}{o1 o2:Oper}{x v:AV}(hc:c=.seq (.region id ops false) y)(L0:ops.toList=[o1,o2])(h1:iX P o1.op bI s=some (v,s))(hl1:ga o1.op=none)(hd:mE N o1.dst=true/\mE N o2.dst=true)
  (hg:o1.guard=none/\o2.guard=none) (hx:qu P o2.op (fF o1.dst v bI)=some x)
  (h: ∀b:Bool,(b=true->ny x)->lT P N ρ y Q (fF o2.dst (.bool b) (fF o1.dst v bI)) s):lT P N ρ c Q bI s:=by
 subst hc
 refine BZ λG w a hn=>wpIn_region ?_
 have eC:ops.size=2:=by rw[<-FR,L0];rfl
 have e0:ops[0]? =some o1:=by rw[<-YU,L0];rfl
 have e1:ops[1]? =some o2:=by rw[<-YU,L0];rfl
 rw[eC]
 show wpOpsIn _ 0 P ops _ [0,1] a w
 simp only[wpOpsIn,e0]
 rw[dD (by simp[Region.wanted,hg.1])]
 refine vm (K:=λv' s'=>v'=v/\s'=s) ?_ hn _ ?_
 ·unfold Vd
  simp only[hl1,h1]
  exact⟨trivial,trivial⟩
 rintro v1 G1 x1 s1 w1 Of VD hx1 ⟨rfl,rfl⟩
 have ZU:=hn.put hd.1 Of VD hx1
 simp only[e1]
 rw[dD (by simp[Region.wanted,hg.2])]
 refine⟨λ_ _=>trivial,?_⟩
 have ZV: ∀c,o2.op≠ .defer c:=λc e=>by rw[e]at hx;simp[qu]at hx
 have B6:o2.semAt (vd (wL G ρ)).round (a.put o1.dst v1).eval=execOp (a.put o1.dst v1).eval o2:=Oper.semAt_eq _ _ _ (λc=>by
  intro e;exact ZV c e)
 rw[B6]
 obtain⟨b,hb,fB⟩:=Pb ZU hx
 rw[fB,Oper.uponIn_value]
 have R2:=ZU.put (d:=o2.dst) hd.2 (V.bool b) ZU.iQ (.refl _ _ _)
 exact⟨G1,_,s1,R2,hx1,h b hb⟩
def Cj(P:Program)(N:Nat)(c:Code)(bI:Env)(s:St):Option (Code×Option Nat×Env×AV):=match c with
 |.seq (.region _ ops false) y=>match ops.toList with
  | [o1,o2]=>bif o1.guard.isNone&&o2.guard.isNone&&mE N o1.dst&&mE N o2.dst&&fV o1.op&&(ga o1.op).isNone then
    match iX P o1.op bI s with
    |some (v,_)=>match qu P o2.op (fF o1.dst v bI)with
     |some x=>some (y,o2.dst,fF o1.dst v bI,x)
     |none=>none
    |none=>none
   else none
  |_=>none
 |_=>none
theorem Ss{c:Code}(y:Code)(d:Option Nat)(E1:Env)(x:AV)(hx:Cj P N c bI s=some (y,d,E1,x))(h: ∀b:Bool,(b=true->ny x)->lT P N ρ y Q (fF d (.bool b) E1) s):lT P N ρ c Q bI s:=by
 unfold Cj at hx
 split at hx
 case h_2=>cases hx
 rename_i id ops y'
 split at hx
 case h_2=>cases hx
 rename_i o1 o2 L0
 generalize hq:(o1.guard.isNone&&o2.guard.isNone&&mE N o1.dst&&mE N o2.dst&&fV o1.op&&(ga o1.op).isNone)=q at hx
 cases q with
 |false=>cases hx
 |true=>
  simp only[fi,Option.isNone_iff_eq_none]at hq
  simp only[cS]at hx
  split at hx
  case h_2=>cases hx
  rename_i v s1 hv
  split at hx
  case h_2=>cases hx
  rename_i x0 OW
  cases hx
  have:=oS hq.1.2 hv
  subst this
  exact Pc rfl L0 hv hq.2 ⟨hq.1.1.1.2,hq.1.1.2⟩ ⟨hq.1.1.1.1.1,hq.1.1.1.1.2⟩ OW h
theorem V2{α:Type}{l:List α}{e:α->AV}{b:Bool}(h:ny (.sl b (l.map e))):l=[]:=by simpa[ny]using h
theorem V3{α:Type}{l:List α}{i:Nat}(h:ny (.ms i 0 l.length)):l=[]:=by simpa[ny]using h
end
end Go.Am
end
section
namespace Go.Am
open Go.RowKit
theorem mK{α β:Type}{o:Option α}{f:α->Option β}{r:β}(h:o.bind f=some r): ∃a,o=some a/\f a=some r:=by
 cases o with
 |none=>cases h
 |some a=>exact⟨a,rfl,h⟩
theorem ZW{α:Type}{b:Bool}{x y:Option α}{r:α}(h:(bif b then x else y)=some r):(b=true/\x=some r)\/(b=false/\y=some r):=by
 cases b with
 |true=>exact .inl ⟨rfl,h⟩
 |false=>exact .inr ⟨rfl,h⟩
def cu{α:Type}(p:Prop)[Decidable p](x:Option α):Option α:=if p then x else none
theorem L1{α:Type}{p:Prop}[Decidable p]{x:Option α}{r:α}(h:cu p x=some r):p/\x=some r:=by
 unfold cu at h
 split at h
 ·rename_i hp;exact⟨hp,h⟩
 ·cases h
def ix{α:Type}(l:List α)(i:Int):Option α:=if 0<=i then l[i.toNat]? else none
theorem Pd{α:Type}{l:List α}{i:Int}{x:α}(h:ix l i=some x):0<=i/\l[i.toNat]? =some x:=by
 unfold ix at h
 split at h
 ·rename_i hp;exact⟨hp,h⟩
 ·cases h
theorem ZX{α:Type}{l:List α}{i:Int}{x:α}(h:ix l i=some x):i<l.length:=by
 obtain⟨h0,h1⟩:=Pd h
 have:=(fP.1 h1).1
 omega
theorem dw{α:Type}(l:List α)(e:α->AV)(h: ∀x,(e x).dy=true):eQ (l.map e)=true:=by
 rw[ep]
 intro y hy
 obtain⟨x,_,rfl⟩:=jJ.1 hy
 exact h x
def Ao:Code->List Code
 |.seq a b=>.seq a b::(Ao a++Ao b)
 |.cond o a b=>.cond o a b::(Ao a++Ao b)
 |.block i a=>.block i a::Ao a
 |.loop a=>.loop a::Ao a
 |.rangeFunc f p a b=>.rangeFunc f p a b::(Ao a++Ao b)
 |.scope a=>.scope a::Ao a
 |c=>[c]
def V4:List Code->Nat->Code
 | [],_=>.skip
 |c::_,0=>c
 |_::r,n+1=>V4 r n
def Bf(h h2:List (Nat×gD)):Bool:=h.all λp=>!tU p.2||(match bH h2 p.1 with
 |some b=>tU b
 |none=>false)
theorem nY{h h2:List (Nat×gD)}(hk:Bf h h2=true)(id:Nat)(e:bH h id=some .gr):bH h2 id=some .gr:=by
 have:=pT.1 hk _ (nW e)
 simp only[tU,p8,Hx]at this
 split at this
 ·rename_i b hb
  cases b with
  |gr=>exact hb
  |cells _ _=>cases this
  |loop _=>cases this
 ·cases this
section
variable {P:Program} {N:Nat} {ρ:Option Nat} {Q Q':Exit->Env->St->Prop} {bI E2:Env} {s S2:St} {c:Code}
end
section
variable {P:Program} {N:Nat} {ρ:Option Nat} {Q Q':Exit->Env->St->Prop} {bI:Env} {s:St} {c:Code}
end
def pi(L:List (Nat×Nat))(id:Nat):Nat:=match bH L id with
 |some x=>x
 |none=>id
inductive QV (ok:Nat->Bool) (π:Nat->Nat) (bR:Nat) (s:St):List (Nat×gD)->Prop
 |z:QV ok π bR s []
 |k {id:Nat} {x x':gD} {r:List (Nat×gD)} (hg:bH s.heap (π id)=some x') (hc:Bd ok π x x') (hr:QV ok π bR s r):QV ok π bR s ((id,x)::r)
 |n {id cB:Nat} {r:List (Nat×gD)} (h1:Nat.ble bR id=true) (h2:Nat.ble s.bT (π id)=true) (h3:Nat.blt 0 cB=true) (hr:QV ok π bR s r):QV ok π bR s ((id,.cells cB [])::r)
theorem QV.get{ok:Nat->Bool}{π:Nat->Nat}{bR:Nat}{s:St}: ∀{l:List (Nat×gD)},QV ok π bR s l-> ∀id b,bH l id=some b->
  (∃b',bH s.heap (π id)=some b'/\Bd ok π b b')\/(bR<=id/\s.bT<=π id/\ ∃cB,0<cB/\b=.cells cB [])
 |_,.z,id,b,h=>by simp[cV,cM]at h
 |_,.k hg hc hr,id,b,h=>by
  simp only[cV,cM]at h
  split at h
  ·rename_i e;cases h;subst e;exact .inl ⟨_,hg,hc⟩
  ·exact hr.get id b h
 |_,.n h1 h2 h3 hr,id,b,h=>by
  simp only[cV,cM]at h
  split at h
  ·rename_i e;cases h;subst e;exact .inr ⟨tA h1,tA h2,_,by simpa[rO]using h3,rfl⟩
  ·exact hr.get id b h
theorem Su{bR:Nat}{L:List (Nat×Nat)}(h:L.all (λp=>Nat.ble bR p.1)=true){id:Nat}(hl:id<bR):pi L id=id:=by
 unfold pi
 cases hg:bH L id with
 |none=>rfl
 |some x=>
  have:=pT.1 h _ (nW hg)
  simp only[Ji]at this
  omega
section
variable {P:Program} {N:Nat} {ρ:Option Nat} {Q Q':Exit->Env->St->Prop} {bI:Env} {s:St} {c:Code}
theorem QW{f:FuncId}{args:List AV}{K:AV->St->Prop}(N':Nat)(rs:List ResultVar)(c:Code)(E:Env)(hf:((P.funcs[f]?).bind λfn=>fn.body.map λb=>(fn.ntmps,fn.results.toList,b))=some (N',rs,c))(hE:nw args 0=E)
  (hn:Nat.ble args.length N'=true) (hd:nb s.heap=true) (h:lT P N' none c (JB P rs.toArray K) E s):dQ P f args s K:=by
 cases hq:P.funcs[f]? with
 |none=>simp[hq]at hf
 |some fn=>
  simp only[hq,cK]at hf
  cases hb:fn.body with
  |none=>simp[hb]at hf
  |some c'=>
   simp only[hb,gy,Option.some.injEq,Prod.mk.injEq]at hf
   obtain⟨h1,h2,h3⟩:=hf
   subst h1;subst h2;subst h3;subst hE
   exact B8 hq hb (tA hn) (nV hd) (by simpa using h)
end
def eu(x y:Int):Int:=x.fdiv (2^(min y.toNat 64))
abbrev wr(x:Int):Int:=IntKind.i64.wrap x
def Sv(x y:Int):Int:=if y<x then y else x
def kM(x y:Int):Int:=if x<y then y else x
abbrev cz:Nat:=18446744073709551616
def SL{α:Type}(e:α->AV)(l:List α):AV:=.sl false (l.map e)
theorem yq{α:Type}{e:α->AV}(h: ∀x,(e x).dy=true)(l:List α):(SL e l).dy=true:=dw l e h
theorem sQ(n:Int):(AV.i n).dy=true:=rfl
theorem tX(n:Bool):(AV.bool n).dy=true:=rfl
theorem Sw(n:ByteArray):(AV.str n).dy=true:=rfl
theorem gm{x:AV}{xs:List AV}(h:x.dy=true)(hs:eQ xs=true):eQ (x::xs)=true:=by simp[eQ,h,hs]
theorem z7:eQ []=true:=rfl
section
variable {α:Type} {l m:List α} (e:α->AV)
end
end Go.Am
end
section
namespace Go.Am
open Go.RowKit
section
variable {α:Type} {l:List α} {i:Int} {x:α} (e:α->AV)
end
section
variable {P:Program} {N:Nat} {ρ:Option Nat} {Q:Exit->Env->St->Prop} {bI:Env} {s:St} {c:Code}
end
section
variable {α:Type} {l:List α} {a n:Nat} (e:α->AV)
end
end Go.Am
end
section
namespace Go.Am
open Go.RowKit
section
variable {α:Type}
end
end Go.Am
end
section
namespace Go.Am
open Go.RowKit
theorem kl{P:Program}{b:Frame}{a:Act}{k:List Item}{cs:List Frame}{w:World}{c:Code}:step P (lone (b.atR a (.code (.scope c)::k)) cs w)=.next (lone (b.atR a (.code c::.inScope c::k)) cs w):=
 step_lone_go (by simp[stepG,stepG.exec,Frame.atR])
theorem Ap{P:Program}{b:Frame}{a:Act}{k:List Item}{cs:List Frame}{w:World}{c:Code}:step P (lone (b.atR a (.inScope c::k)) cs w)=.next (lone (b.atR a k) cs w):=
 step_lone_go (by simp[stepG,stepG.exec,Frame.atR])
theorem Gi{P:Program}{F:Fence}{n:Nat}{Q:Exit->Act->World->Prop}{a:Act}{w:World}{c:Code}(h:c.wpIn F n P Q a w)(ZY: ∀l a w,¬Q (.goto l) a w):(Code.scope c).wpIn F n P Q a w:=by
 intro b k cs Jn hb hr
 have h0:(lone (b.atR a (.code (.scope c)::k)) cs w).fenced P F:=fenced_calm hb hr rfl
 obtain⟨e,wN,wO,hq,sK⟩:=h b (.inScope c::k) cs Jn hb hr
 cases e with
 |normal=>exact⟨.normal,wN,wO,hq,.head h0 kl (StepsIn.trans sK (.one (fenced_calm hb hr rfl) Ap))⟩
 |exit id=>
  have hx:exitTo id (.inScope c::k)=exitTo id k:=by simp[exitTo]
  exact⟨.exit id,wN,wO,hq,λk' hk=>.head h0 kl (sK.1 k' (by rw[hx];exact hk)),
   λGj hk=>let⟨ZZ,h1,h2⟩:=sK.2 Gj (by rw[hx];exact hk);⟨ZZ,h1,.head h0 kl h2⟩⟩
 |goto l=>exact(ZY _ _ _ hq).elim
 |ret=>exact⟨_,wN,wO,hq,.of_steps (.one h0 kl) sK⟩
 |panic ch=>exact⟨_,wN,wO,hq,.of_steps (.one h0 kl) sK⟩
 |outgrown=>exact⟨_,wN,wO,hq,.of_steps (.one h0 kl) sK⟩
theorem JO{P:Program}{N:Nat}{ρ:Option Nat}{Q:Exit->Env->St->Prop}{bI:Env}{s:St}{c:Code}(h:lT P N ρ c Q bI s)(ZY: ∀l bI s,¬Q (.goto l) bI s):lT P N ρ (.scope c) Q bI s:=λG w a hn=>
 Gi (h G w a hn) λl a' w' ⟨_,env',s',_,_,hq⟩=>ZY l env' s' hq
end Go.Am
end
