/- The logic AM, E: rules of which generated walks are made. -/
import Derived.Test.YtpbahncblggodaaGreatAm26
import Derived.WalkSpells
import Derived.KernelRfl
import Derived.Laws.Externs
set_option linter.all false
section
namespace Go.Am
open Go.RowKit
def Fv(P:Program)(op:Op)(bI:Env)(s:St):Option (AV×St):=match op with
 |.buildSlice t len cu=>match lC bI cu.toList with
  |some l=>match fR P t len l,dU P t with
   |some _,some e=>match dl P e with
    |some sz=>some (.ms s.bS 0 l.length,⟨(s.bS,.cells sz (l.map (·.2)))::s.heap,s.bS+1⟩)
    |none=>none
   |_,_=>none
  |none=>none
 |_=>none
section
variable {P:Program} {G:bZ} {s s':St} {w:World} {bI:Env} {a:Act}
theorem BC(hs:eA G s w)(he:iX G bI a.tmps){t len:Nat}{cu:Array (Nat×Operand)}{l:List (Nat×AV)}{x:AV}{e0 sz0:Nat}(hl:lC bI cu.toList=some l)(h:fR P t len l=some x)(W9:dU P t=some e0)(PO:dl P e0=some sz0):
  sN P G s w (Instr.buildSlice t len (cu.map λ(i,x)=>(i,a.eval x))) (.ms s.bS 0 l.length) ⟨(s.bS,.cells sz0 (l.map (·.2)))::s.heap,s.bS+1⟩:=by
 have hp:=s9 he hl
 unfold fR at h
 split at h
 case h_2=>cases h
 rename_i e hu
 split at h
 case h_2=>cases h
 rename_i sz z eo hz
 split at h
 case isFalse=>cases h
 rename_i hc
 obtain⟨rfl,h2,h3,h4,h5,h6⟩:=hc
 cases h
 obtain⟨zv,NG,Kt⟩:=jO hz w G
 let zc:Array Value:=if l.length*sz=0 then #[]else zv.cells
 let c0:Array Value:=(Array.range (l.length*sz)).map (zc[· %zc.size]!)
 have UA:VL G (List.replicate (l.length*sz) AV.any) c0:=⟨by simp[c0],λi x y hx _=>by
  rw[WL]at hx
  split at hx
  ·cases hx;exact .any _
  ·cases hx⟩
 have pB:=rV (sz:=sz) (st:=0) (cells:=List.replicate (l.length*sz) AV.any) h2 h3 (by simp)
 simp only[T7,QR,qY]at pB
 obtain⟨ov,f1,f2⟩:=s8 (place':=λi=>some (i*sz,sz)) (λi q hq=>hq) UA hp pB
 have iA: ∀y∈l.map (·.2),y.cells.length=sz:=λy hy=>by
  obtain⟨p,hp,rfl⟩:=kb.1 hy
  exact(h3 p hp).1
 have dt:ov.size=l.length*sz:=by rw[<-f2.1,dy iA];simp
 rw[hu]at W9
 have PU:=Option.some.inj W9
 subst PU
 rw[eo]at PO
 have UL:=Option.some.inj PO
 subst UL
 have fh:(Instr.buildSlice t l.length (cu.map λ(i,x)=>(i,a.eval x))).run P w=.ok (.slice (some ⟨w.heap.size,0,none⟩) l.length l.length) (w.alloc (.cells ov e)):=by
  have YF: ¬(2^24<l.length*sz):=by omega
  have YG: ¬(16777216<l.length*sz):=by omega
  simp only[Instr.buildSlice,Sem.run_bind,run_underlying (fj hu),dX eo,Result.andThen_ok,gt_iff_lt,if_neg YF,WM]
  have IK:Instr.fill (λi=>some (i*sz,sz)) c0 (cu.toList.map λp=>(p.1,a.eval p.2))=some ov:=f1
  by_cases hN:l.length*sz=0
  ·rw[if_pos hN]
   simp only[c0,zc,if_pos hN]at IK
   simp only[pure_bind,IK]
   simp[newRow]
  ·rw[if_neg hN]
   simp only[c0,zc,if_neg hN]at IK
   simp only[Sem.run_bind,NG,Result.andThen_ok,Sem.run_pure,IK]
   simp[newRow]
 have jZ: ∀k y,(di (l.map (·.2)))[k]? =some y-> ∃v,ov[k]? =some v/\V G y v:=λk y hk=>f2.get hk
 obtain⟨q1,q2⟩:=hs.put (o:=.cells ov e) (blk:=.cells sz (l.map (·.2))) (r:=⟨w.heap.size,0,sz,ov.size⟩) rfl
  (.cells _ _ _ _ rfl rfl h5 iA (λy hy=>by
   rw[di,sL]at hy
   obtain⟨q,hq,hy⟩:=hy
   obtain⟨p,hp,rfl⟩:=kb.1 hq
   exact jP (h3 p hp).2 y hy) (by rw[dt];simp) λk y hk=>by
   obtain⟨v,e1,e2⟩:=jZ k y hk
   exact⟨v,by simpa using e1,e2.mono (.put (hs.cq _ (eu _)))⟩)
 refine⟨_,_,_,fh,?_,q1,q2⟩
 exact .ms s.bS 0 _ _ ⟨w.heap.size,0,sz,ov.size⟩ 0 (by simp[bZ.put]) (eu _) (by rw[dt];simp) (λ_=>by simp)
theorem K7(hs:eA G s w)(he:iX G bI a.tmps)(o:Oper){x:AV}(h:Fv P o.op bI s=some (x,s')):Kx P G s w (execOp a.eval o) x s':=by
 unfold Fv at h
 obtain⟨dst,op,type,pos,after,guard⟩:=o
 simp only at h
 split at h
 case h_2=>cases h
 rename_i t len cu
 split at h
 case h_2=>cases h
 rename_i l hl
 split at h
 case h_2=>cases h
 rename_i y e hb W9
 split at h
 case h_2=>cases h
 rename_i sz eo
 cases h
 exact(BC hs he hl hb W9 eo).next
theorem I4{o:Oper}{r:AV×St}(h:Fv P o.op bI s=some r): ∃t len cu,o.op=.buildSlice t len cu:=by
 unfold Fv at h
 split at h
 ·rename_i hq;exact⟨_,_,_,hq⟩
 ·cases h
end
section
variable {P:Program} {N:Nat} {ρ:Option Nat} {Q:Exit->Env->St->Prop} {bI:Env} {s:St} {a:Act} {G:bZ} {w:World}
def Y3(P:Program)(g:FuncId)(args:List AV)(s:St)(v:AV):Prop:= ∀G w vs,eA G s w->VL G args vs-> ∃val,(callFunc g vs).run P w=.ok (.value val) w/\V G v val
def U8(P:Program)(op:Op)(bI:Env)(s:St)(v:AV):Prop:= ∃f args g fH l,fS op=some (f,args)/\oper bI f=some (.fn g fH)/\opers bI args=some l/\Y3 P g (l++fH) s v
def Ry(P:Program)(o:Oper)(K:AV->St->Prop)(bI:Env)(s:St):Prop:=Um P o K bI s\/(∃v s',Fv P o.op bI s=some (v,s')/\K v s')\/ ∃v,U8 P o.op bI s v/\K v s
theorem Fw{o:Oper}{K:AV->St->Prop}{next:Act->World->Prop}{R:Exit->Act->World->Prop}(h:Ry P o K bI s)(hn:wB G N ρ bI s a w)(ro:Option Nat)
  (hK: ∀v G' x s' w',V G' x v->eA G' s' w'->Ext G s w G' s' w'->K x s'->next (a.put o.dst v) w'):o.wpIn (uD ro) 0 P a w next R:=by
 rcases h with h|⟨x,s',hx,hk⟩|⟨x,⟨f,args,g,fH,l,hc,hf,hl,hx⟩,hk⟩
 ·exact uK h hn ro hK
 case inr.inr=>
  refine⟨λ_ _=>trivial,?_⟩
  obtain⟨arr,ts,xp,rfl⟩:=Aa hc
  have Bq:o.semAt (uD ro).round a.eval=execOp a.eval o:=Oper.semAt_eq _ _ _ (λc=>by rw[xp];simp)
  rw[Bq]
  have GR:=eB hn.bI hf
  have GS:=sX hn.bI hl
  generalize hq:a.eval f=fv at GR
  cases GR with
  |fn _ _ vs h1 h2=>
   obtain⟨val,e1,e2⟩:=hx G w _ hn.iE (GS.append ⟨h1,h2⟩)
   have fh:(execOp a.eval o).run P w=.ok (.value val) w:=by
    simp[execOp,xp,resolve,Deferred.ofValue,hq,invoke,e1]
   rw[fh,Oper.uponIn_value]
   exact hK val G x s w e2 hn.iE (.refl _ _ _) hk
 ·refine⟨λ_ _=>trivial,?_⟩
  obtain⟨t,len,cu,xp⟩:=I4 hx
  have Bq:o.semAt (uD ro).round a.eval=execOp a.eval o:=Oper.semAt_eq _ _ _ (λc=>by rw[xp];simp)
  rw[Bq]
  obtain⟨nx,v,G',w',e1,e2,e3,e4,e5⟩:=K7 hn.iE hn.bI o hx
  rw[e1]
  rcases e2 with rfl|⟨rfl,rfl⟩
  ·rw[Oper.uponIn_value];exact hK v G' x s' w' e3 e4 e5 hk
  ·rw[Oper.uponIn_skip];exact hK undef G' x s' w' e3 e4 e5 hk
def Fx(P:Program)(N:Nat)(ops:Array Oper)(K:Env->St->Prop):List Oper->Env->St->Prop
 | [],bI,s=>K bI s
 |o::r,bI,s=>l9 N o.dst=true/\WX ops o bI (Ry P o (λv s'=>Fx P N ops K r (fp o.dst v bI) s') bI s) (Fx P N ops K r (fp o.dst (.dW []) bI) s)
theorem rY{ops:Array Oper}{G0:bZ}{s0:St}{w0:World}(h0:eA G0 s0 w0)(ro:Option Nat): ∀(l:List Oper)(k:Nat)(bI:Env)(s:St)(G:bZ)(a:Act)(w:World),ops.toList.drop k=l->
  wB G N ρ bI s a w->Ext G0 s0 w0 G s w->Fx P N ops (λbI s=>Q .normal bI s) l bI s->wpOpsIn (uD ro) 0 P ops (gM G0 N ρ s0 w0 Q) (List.range' k l.length) a w
 | [],k,bI,s,G,a,w,_,hn,hx,h=>⟨G,bI,s,hn,hx,h⟩
 |o::r,k,bI,s,G,a,w,hl,hn,hx,h=>by
  have ho:ops[k]? =some o:=by
   have:=congrArg (λl:List Oper=>l[0]?) hl
   simpa[J8]using this
  have hr:ops.toList.drop (k+1)=r:=by rw[<-List.drop_drop,hl];rfl
  obtain⟨hd,h⟩:=h
  rw[oc,List.range'_succ]
  simp only[wpOpsIn,ho]
  rcases IM h hn.bI with⟨hw,h⟩|⟨hw,h⟩
  ·rw[if_pos hw]
   exact Fw h hn ro λv G' x s' w' hv hs he hk=>rY h0 ro r (k+1) _ _ G' _ w' hr (hn.put hd hv hs he) (hx.trans h0 he) hk
  ·rw[if_neg (by simp[hw])]
   exact⟨λ_ _=>trivial,rY h0 ro r (k+1) _ _ G _ w hr (hn.put hd (.dW [] #[] rfl (by simp)) hn.iE (.refl _ _ _)) hx h⟩
theorem Dg{id:Nat}{ops:Array Oper}(h:Fx P N ops (λbI s=>Q .normal bI s) ops.toList bI s):lA P N ρ (.region id ops false) Q bI s:=λG w a hn=>by
 refine wpIn_region ?_
 rw[X7]
 exact rY hn.iE _ ops.toList 0 bI s G a w rfl hn (.refl _ _ _) h
def Om(P:Program)(op:Op)(K:AV->St->Prop)(bI:Env)(s:St):Prop:=ows P op K bI s\/(∃v s',Fv P op bI s=some (v,s')/\K v s')\/ ∃v,U8 P op bI s v/\K v s
def pW(P:Program)(K:Env->St->Prop):List Ins->Env->St->Prop
 | [],bI,s=>K bI s
 |i::r,bI,s=>EP i.guard bI (Om P i.op (λv s'=>pW P K r (fp i.dst v bI) s') bI s) (pW P K r (fp i.dst (.dW []) bI) s)
theorem th{ops:Array Oper}{K:Env->St->Prop}(hg:nA ops.toList=true): ∀{l:List Oper}{bI:Env}{s:St},(∀o∈l,o∈ops.toList)->pN N l=true->
  pW P K (l.map (lJ ops.toList)) bI s->Fx P N ops K l bI s
 | [],_,_,_,_,h=>h
 |o::r,bI,s,hm,hd,h=>by
  simp only[pN,WE,eW]at hd
  have ih: ∀{bI:Env}{s:St},pW P K (r.map (lJ ops.toList)) bI s->Fx P N ops K r bI s:=th hg (λo ho=>hm o (by simp[ho])) hd.2
  refine⟨hd.1,?_⟩
  simp only[wy,pW]at h
  have U9: ∀{bI:Env}{s:St},Om P o.op (λv s'=>pW P K (r.map (lJ ops.toList)) (fp o.dst v bI) s') bI s->Ry P o (λv s'=>Fx P N ops K r (fp o.dst v bI) s') bI s:=by
   intro bI s h
   rcases h with h|⟨v,s',hx,hk⟩|⟨v,hx,hk⟩
   case inr.inl=>exact .inr (.inl ⟨v,s',hx,ih hk⟩)
   case inr.inr=>exact .inr (.inr ⟨v,hx,ih hk⟩)
   refine .inl ?_
   unfold ows at h
   unfold Um
   split at h
   ·rename_i f args hc
    simp only[hc]
    split at h
    ·rename_i g fH l h1 h2
     simp only[h1,h2]
     exact⟨h.1,h.2.mono λ_ _ hk=>ih hk⟩
    ·rename_i id l h1 h2
     simp only[h1,h2]
     exact h.mono λ_ _ hk=>ih hk
    ·cases h
   ·rename_i hc
    simp only[hc]
    split at h
    ·rename_i v s' hx
     simp only[hx]
     exact ih h
    ·cases h
  have PS:=(py.1 hg) o (hm o (by simp))
  unfold WX
  unfold lJ EP at h
  cases hq:o.guard with
  |none=>simp only[hq]at h |-;exact U9 h
  |some jw=>
   obtain⟨j,want⟩:=jw
   simp only[hq]at h PS |-
   obtain⟨d,uy⟩:=zY.1 PS
   rw[show ops[j]? =ops.toList[j]? from by simp]
   rw[uy]at h |-
   simp only at h |-
   split at h
   ·rename_i b hb
    simp only[hb]
    exact⟨λe=>U9 (h.1 e),λe=>ih (h.2 e)⟩
   ·rename_i hb
    simp only[hb]
    exact ih h
   ·cases h
theorem K8{id:Nat}{ops:Array Oper}{K:Env->St->Prop}(l:List Oper)(hl:ops.toList=l)(hg:nA l=true)(hd:pN N l=true)(h:pW P (λbI s=>Q .normal bI s) (ins l) bI s):
  lA P N ρ (.region id ops false) Q bI s:=by
 subst hl
 exact Dg (th hg (λ_ h=>h) hd h)
def mY:AV->Prop
 |.sl _ l=>l=[]
 |.ms _ _ n=>n=0
 |_=>False
def pX(P:Program)(op:Op)(bI:Env):Option AV:=match op with
 |.binOp .eql t x (.const (.slice none 0 0)) _=>match dU P t,oper bI x with
  |some _,some (.sl b l)=>some (.sl b l)
  |some _,some (.ms i a n)=>some (.ms i a n)
  |_,_=>none
 |_=>none
theorem On{o:Oper}{x:AV}(hn:wB G N ρ bI s a w)(h:pX P o.op bI=some x): ∃b:Bool,(b=true->mY x)/\(execOp a.eval o).run P w=.ok (.value (.bool b)) w:=by
 unfold pX at h
 obtain⟨dst,op,type,pos,after,guard⟩:=o
 simp only at h
 split at h
 case h_2=>cases h
 rename_i t y yt
 have key: ∀{bQ:Option Addr}{n cap:Nat}{b:Bool},a.eval y=.slice bQ n cap->(binOp .eql t (.slice bQ n cap) (.slice none 0 0)).run P w=.ok (.bool b) w->
   (execOp a.eval ⟨dst,.binOp .eql t y (.const (.slice none 0 0)) yt,type,pos,after,guard⟩).run P w=.ok (.value (.bool b)) w:=λ{bQ n cap b}hq hr=>by
  have hc:a.eval (.const (.slice none 0 0))=.slice none 0 0:=rfl
  have hg:=pM (P:=P) (w:=w) (op:=.eql) (t:=t) (x:=y) (y:=.const (.slice none 0 0)) (xv:=.slice bQ n cap) (yv:=.slice none 0 0) (.inr ⟨by simp,by simp⟩)
  simp only[execOp,hq,hc]
  simp[hg,hr]
 split at h
 ·rename_i e full l he hy
  cases h
  have hv:=eB hn.bI hy
  generalize hq:a.eval y=v at hv
  obtain⟨bQ,cap,rfl,_,_,hb,hz⟩:=V.pJ hv
  refine⟨bQ.isNone,λe=>?_,?_⟩
  ·rcases hz with hz|⟨b,off,cz,val,hz,_⟩
   ·exact hz
   ·subst hz;cases e
  ·have:=Lib.run_eql_slice_nil (P:=P) w t e bQ l.length cap 0 0 (fj he)
   exact key hq this
 ·rename_i e id st n he hy
  cases h
  have hv:=eB hn.bI hy
  generalize hq:a.eval y=v at hv
  cases hv with
  |ms _ _ _ cap r addr ho ep eP ha=>
   refine⟨false,λe=>(by cases e),?_⟩
   have:=Lib.run_eql_slice_nil (P:=P) w t e (some ⟨r.block,addr,none⟩) n cap 0 0 (fj he)
   exact key hq this
  |gn _ _ cap bQ hc=>
   refine⟨bQ.isNone,λ_=>rfl,?_⟩
   have:=Lib.run_eql_slice_nil (P:=P) w t e bQ 0 cap 0 0 (fj he)
   exact key hq this
 ·cases h
theorem Oo{c y:Code}{id:Nat}{ops:Array Oper}{o1 o2:Oper}{x v:AV}(hc:c=.seq (.region id ops false) y)(K9:ops.toList=[o1,o2])(h1:iL P o1.op bI s=some (v,s))(hl1:fS o1.op=none)(hd:l9 N o1.dst=true/\l9 N o2.dst=true)
  (hg:o1.guard=none/\o2.guard=none) (hx:pX P o2.op (fp o1.dst v bI)=some x)
  (h: ∀b:Bool,(b=true->mY x)->lA P N ρ y Q (fp o2.dst (.bool b) (fp o1.dst v bI)) s):lA P N ρ c Q bI s:=by
 subst hc
 refine Bh λG w a hn=>wpIn_region ?_
 have eo:ops.size=2:=by rw[<-E6,K9];rfl
 have e0:ops[0]? =some o1:=by rw[<-X3,K9];rfl
 have e1:ops[1]? =some o2:=by rw[<-X3,K9];rfl
 rw[eo]
 show wpOpsIn _ 0 P ops _ [0,1] a w
 simp only[wpOpsIn,e0]
 rw[if_pos (by simp[Region.wanted,hg.1])]
 refine uK (K:=λv' s'=>v'=v/\s'=s) ?_ hn _ ?_
 ·unfold Um
  simp only[hl1,h1]
  exact⟨trivial,trivial⟩
 rintro v1 G1 x1 s1 w1 Nt UL hx1 ⟨rfl,rfl⟩
 have Y4:=hn.put hd.1 Nt UL hx1
 simp only[e1]
 rw[if_pos (by simp[Region.wanted,hg.2])]
 refine⟨λ_ _=>trivial,?_⟩
 have Y5: ∀c,o2.op≠ .defer c:=λc e=>by rw[e]at hx;simp[pX]at hx
 have Bq:o2.semAt (uD (vW G ρ)).round (a.put o1.dst v1).eval=execOp (a.put o1.dst v1).eval o2:=Oper.semAt_eq _ _ _ (λc=>by
  intro e;exact Y5 c e)
 rw[Bq]
 obtain⟨b,hb,fh⟩:=On Y4 hx
 rw[fh,Oper.uponIn_value]
 have Q8:=Y4.put (d:=o2.dst) hd.2 (V.bool b) Y4.iE (.refl _ _ _)
 exact⟨G1,_,s1,Q8,hx1,h b hb⟩
def BD(P:Program)(N:Nat)(c:Code)(bI:Env)(s:St):Option (Code×Option Nat×Env×AV):=match c with
 |.seq (.region _ ops false) y=>match ops.toList with
  | [o1,o2]=>bif o1.guard.isNone&&o2.guard.isNone&&l9 N o1.dst&&l9 N o2.dst&&fN o1.op&&(fS o1.op).isNone then
    match iL P o1.op bI s with
    |some (v,_)=>match pX P o2.op (fp o1.dst v bI)with
     |some x=>some (y,o2.dst,fp o1.dst v bI,x)
     |none=>none
    |none=>none
   else none
  |_=>none
 |_=>none
theorem Rz{c:Code}(y:Code)(d:Option Nat)(E1:Env)(x:AV)(hx:BD P N c bI s=some (y,d,E1,x))(h: ∀b:Bool,(b=true->mY x)->lA P N ρ y Q (fp d (.bool b) E1) s):lA P N ρ c Q bI s:=by
 unfold BD at hx
 split at hx
 case h_2=>cases hx
 rename_i id ops y'
 split at hx
 case h_2=>cases hx
 rename_i o1 o2 K9
 generalize hq:(o1.guard.isNone&&o2.guard.isNone&&l9 N o1.dst&&l9 N o2.dst&&fN o1.op&&(fS o1.op).isNone)=q at hx
 cases q with
 |false=>cases hx
 |true=>
  simp only[eW,Option.isNone_iff_eq_none]at hq
  simp only[cond_true]at hx
  split at hx
  case h_2=>cases hx
  rename_i v s1 hv
  split at hx
  case h_2=>cases hx
  rename_i x0 N8
  cases hx
  have:=oA hq.1.2 hv
  subst this
  exact Oo rfl K9 hv hq.2 ⟨hq.1.1.1.2,hq.1.1.2⟩ ⟨hq.1.1.1.1.1,hq.1.1.1.1.2⟩ N8 h
theorem Va{α:Type}{l:List α}{e:α->AV}{b:Bool}(h:mY (.sl b (l.map e))):l=[]:=by simpa[mY]using h
theorem Vb{α:Type}{l:List α}{i:Nat}(h:mY (.ms i 0 l.length)):l=[]:=by simpa[mY]using h
end
end Go.Am
end
section
namespace Go.Am
open Go.RowKit
theorem ml{α β:Type}{o:Option α}{f:α->Option β}{r:β}(h:o.bind f=some r): ∃a,o=some a/\f a=some r:=by
 cases o with
 |none=>cases h
 |some a=>exact⟨a,rfl,h⟩
theorem Y6{α:Type}{b:Bool}{x y:Option α}{r:α}(h:(bif b then x else y)=some r):(b=true/\x=some r)\/(b=false/\y=some r):=by
 cases b with
 |true=>exact .inl ⟨rfl,h⟩
 |false=>exact .inr ⟨rfl,h⟩
def cr{α:Type}(p:Prop)[Decidable p](x:Option α):Option α:=if p then x else none
theorem La{α:Type}{p:Prop}[Decidable p]{x:Option α}{r:α}(h:cr p x=some r):p/\x=some r:=by
 unfold cr at h
 split at h
 ·rename_i hp;exact⟨hp,h⟩
 ·cases h
def ix{α:Type}(l:List α)(i:Int):Option α:=if 0<=i then l[i.toNat]? else none
theorem Oq{α:Type}{l:List α}{i:Int}{x:α}(h:ix l i=some x):0<=i/\l[i.toNat]? =some x:=by
 unfold ix at h
 split at h
 ·rename_i hp;exact⟨hp,h⟩
 ·cases h
theorem Y7{α:Type}{l:List α}{i:Int}{x:α}(h:ix l i=some x):i<l.length:=by
 obtain⟨h0,h1⟩:=Oq h
 have:=(fM.1 h1).1
 omega
theorem dE{α:Type}(l:List α)(e:α->AV)(h: ∀x,(e x).dv=true):eG (l.map e)=true:=by
 rw[dY]
 intro y hy
 obtain⟨x,_,rfl⟩:=kb.1 hy
 exact h x
def zC:Code->List Code
 |.seq a b=>.seq a b::(zC a++zC b)
 |.cond o a b=>.cond o a b::(zC a++zC b)
 |.block i a=>.block i a::zC a
 |.loop a=>.loop a::zC a
 |.rangeFunc f p a b=>.rangeFunc f p a b::(zC a++zC b)
 |.scope a=>.scope a::zC a
 |c=>[c]
def Vc:List Code->Nat->Code
 | [],_=>.skip
 |c::_,0=>c
 |_::r,n+1=>Vc r n
def Ak(h h2:List (Nat×gp)):Bool:=h.all λp=>!tg p.2||(match bH h2 p.1 with
 |some b=>tg b
 |none=>false)
theorem nH{h h2:List (Nat×gp)}(hk:Ak h h2=true)(id:Nat)(e:bH h id=some .gb):bH h2 id=some .gb:=by
 have:=py.1 hk _ (nE e)
 simp only[tg,oe,GG]at this
 split at this
 ·rename_i b hb
  cases b with
  |gb=>exact hb
  |cells _ _=>cases this
  |loop _=>cases this
 ·cases this
section
variable {P:Program} {N:Nat} {ρ:Option Nat} {Q Q':Exit->Env->St->Prop} {bI E2:Env} {s S2:St} {c:Code}
end
section
variable {P:Program} {N:Nat} {ρ:Option Nat} {Q Q':Exit->Env->St->Prop} {bI:Env} {s:St} {c:Code}
end
def pi(L:List (Nat×Nat))(id:Nat):Nat:=match bH L id with
 |some x=>x
 |none=>id
inductive P6 (ok:Nat->Bool) (π:Nat->Nat) (bQ:Nat) (s:St):List (Nat×gp)->Prop
 |z:P6 ok π bQ s []
 |k {id:Nat} {x x':gp} {r:List (Nat×gp)} (hg:bH s.heap (π id)=some x') (hc:Ai ok π x x') (hr:P6 ok π bQ s r):P6 ok π bQ s ((id,x)::r)
 |n {id cz:Nat} {r:List (Nat×gp)} (h1:Nat.ble bQ id=true) (h2:Nat.ble s.bS (π id)=true) (h3:Nat.blt 0 cz=true) (hr:P6 ok π bQ s r):P6 ok π bQ s ((id,.cells cz [])::r)
theorem P6.get{ok:Nat->Bool}{π:Nat->Nat}{bQ:Nat}{s:St}: ∀{l:List (Nat×gp)},P6 ok π bQ s l-> ∀id b,bH l id=some b->
  (∃b',bH s.heap (π id)=some b'/\Ai ok π b b')\/(bQ<=id/\s.bS<=π id/\ ∃cz,0<cz/\b=.cells cz [])
 |_,.z,id,b,h=>by simp[cR,cG]at h
 |_,.k hg hc hr,id,b,h=>by
  simp only[cR,cG]at h
  split at h
  ·rename_i e;cases h;subst e;exact .inl ⟨_,hg,hc⟩
  ·exact hr.get id b h
 |_,.n h1 h2 h3 hr,id,b,h=>by
  simp only[cR,cG]at h
  split at h
  ·rename_i e;cases h;subst e;exact .inr ⟨sT h1,sT h2,_,by simpa[qZ]using h3,rfl⟩
  ·exact hr.get id b h
theorem RA{bQ:Nat}{L:List (Nat×Nat)}(h:L.all (λp=>Nat.ble bQ p.1)=true){id:Nat}(hl:id<bQ):pi L id=id:=by
 unfold pi
 cases hg:bH L id with
 |none=>rfl
 |some x=>
  have:=py.1 h _ (nE hg)
  simp only[Iw]at this
  omega
section
variable {P:Program} {N:Nat} {ρ:Option Nat} {Q Q':Exit->Env->St->Prop} {bI:Env} {s:St} {c:Code}
theorem P7{f:FuncId}{args:List AV}{K:AV->St->Prop}(N':Nat)(rs:List ResultVar)(c:Code)(E:Env)(hf:((P.funcs[f]?).bind λfn=>fn.body.map λb=>(fn.ntmps,fn.results.toList,b))=some (N',rs,c))(hE:mX args 0=E)
  (hn:Nat.ble args.length N'=true) (hd:mJ s.heap=true) (h:lA P N' none c (IP P rs.toArray K) E s):dJ P f args s K:=by
 cases hq:P.funcs[f]? with
 |none=>simp[hq]at hf
 |some fn=>
  simp only[hq,cH]at hf
  cases hb:fn.body with
  |none=>simp[hb]at hf
  |some c'=>
   simp only[hb,gl,Option.some.injEq,Prod.mk.injEq]at hf
   obtain⟨h1,h2,h3⟩:=hf
   subst h1;subst h2;subst h3;subst hE
   exact Bs hq hb (sT hn) (nD hd) (by simpa using h)
end
def dZ(x y:Int):Int:=x.fdiv (2^(min y.toNat 64))
abbrev wr(x:Int):Int:=IntKind.i64.wrap x
def RB(x y:Int):Int:=if y<x then y else x
def kw(x y:Int):Int:=if x<y then y else x
abbrev cy:Nat:=18446744073709551616
def SL{α:Type}(e:α->AV)(l:List α):AV:=.sl false (l.map e)
theorem Dh{α:Type}{e:α->AV}(h: ∀x,(e x).dv=true)(l:List α):(SL e l).dv=true:=dE l e h
theorem tl(n:Int):(AV.i n).dv=true:=rfl
theorem wF(n:Bool):(AV.bool n).dv=true:=rfl
theorem RC(n:ByteArray):(AV.str n).dv=true:=rfl
theorem gz{x:AV}{xs:List AV}(h:x.dv=true)(hs:eG xs=true):eG (x::xs)=true:=by simp[eG,h,hs]
theorem zD:eG []=true:=rfl
section
variable {α:Type} {l m:List α} (e:α->AV)
end
end Go.Am
end
section
namespace Go.Am
open Go.RowKit
section
variable {α:Type} {l:List α} {i:Int} {x:α} (e:α->AV)
end
section
variable {P:Program} {N:Nat} {ρ:Option Nat} {Q:Exit->Env->St->Prop} {bI:Env} {s:St} {c:Code}
end
section
variable {α:Type} {l:List α} {a n:Nat} (e:α->AV)
end
end Go.Am
end
section
namespace Go.Am
open Go.RowKit
section
variable {α:Type}
end
end Go.Am
end
section
namespace Go.Am
open Go.RowKit
theorem jT{P:Program}{b:Frame}{a:Act}{k:List Item}{cs:List Frame}{w:World}{c:Code}:step P (lone (b.atR a (.code (.scope c)::k)) cs w)=.next (lone (b.atR a (.code c::.inScope c::k)) cs w):=
 step_lone_go (by simp[stepG,stepG.exec,Frame.atR])
theorem zF{P:Program}{b:Frame}{a:Act}{k:List Item}{cs:List Frame}{w:World}{c:Code}:step P (lone (b.atR a (.inScope c::k)) cs w)=.next (lone (b.atR a k) cs w):=
 step_lone_go (by simp[stepG,stepG.exec,Frame.atR])
theorem Fy{P:Program}{F:Fence}{n:Nat}{Q:Exit->Act->World->Prop}{a:Act}{w:World}{c:Code}(h:c.wpIn F n P Q a w)(Y8: ∀l a w,¬Q (.goto l) a w):(Code.scope c).wpIn F n P Q a w:=by
 intro b k cs Iz hb hr
 have h0:(lone (b.atR a (.code (.scope c)::k)) cs w).fenced P F:=fenced_calm hb hr rfl
 obtain⟨e,vY,vZ,hq,rT⟩:=h b (.inScope c::k) cs Iz hb hr
 cases e with
 |normal=>exact⟨.normal,vY,vZ,hq,.head h0 jT (StepsIn.trans rT (.one (fenced_calm hb hr rfl) zF))⟩
 |exit id=>
  have hx:exitTo id (.inScope c::k)=exitTo id k:=by simp[exitTo]
  exact⟨.exit id,vY,vZ,hq,λk' hk=>.head h0 jT (rT.1 k' (by rw[hx];exact hk)),
   λFA hk=>let⟨Y9,h1,h2⟩:=rT.2 FA (by rw[hx];exact hk);⟨Y9,h1,.head h0 jT h2⟩⟩
 |goto l=>exact(Y8 _ _ _ hq).elim
 |ret=>exact⟨_,vY,vZ,hq,.of_steps (.one h0 jT) rT⟩
 |panic ch=>exact⟨_,vY,vZ,hq,.of_steps (.one h0 jT) rT⟩
 |outgrown=>exact⟨_,vY,vZ,hq,.of_steps (.one h0 jT) rT⟩
theorem I5{P:Program}{N:Nat}{ρ:Option Nat}{Q:Exit->Env->St->Prop}{bI:Env}{s:St}{c:Code}(h:lA P N ρ c Q bI s)(Y8: ∀l bI s,¬Q (.goto l) bI s):lA P N ρ (.scope c) Q bI s:=λG w a hn=>
 Fy (h G w a hn) λl a' w' ⟨_,env',s',_,_,hq⟩=>Y8 l env' s' hq
end Go.Am
end
