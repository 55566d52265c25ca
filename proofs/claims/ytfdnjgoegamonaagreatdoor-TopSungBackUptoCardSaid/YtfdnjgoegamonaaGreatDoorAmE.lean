/- The logic AM, E: rules of which generated walks are made. -/
import Derived.Test.YtfdnjgoegamonaaGreatDoorAm26
import Derived.WalkSpells
import Derived.KernelRfl
import Derived.Laws.Externs
set_option linter.all false
section
namespace Go.Am
open Go.RowKit
def GU(P:Program)(op:Op)(bX:Env)(s:St):Option (AV×St):=match op with
 |.buildSlice t len cR=>match my bX cR.toList with
  |some l=>match gw P t len l,eH P t with
   |some _,some e=>match dF P e with
    |some sz=>some (.ms s.cr 0 l.length,⟨(s.cr,.cells sz (l.map (·.2)))::s.heap,s.cr+1⟩)
    |none=>none
   |_,_=>none
  |none=>none
 |_=>none
section
variable {P:Program} {G:cx} {s s':St} {w:World} {bX:Env} {a:Act}
theorem CI(hs:eQ G s w)(he:jx G bX a.tmps){t len:Nat}{cR:Array (Nat×Operand)}{l:List (Nat×AV)}{x:AV}{e0 sz0:Nat}(hl:my bX cR.toList=some l)(h:gw P t len l=some x)(YJ:eH P t=some e0)(Rm:dF P e0=some sz0):
  tS P G s w (Instr.buildSlice t len (cR.map λ(i,x)=>(i,a.eval x))) (.ms s.cr 0 l.length) ⟨(s.cr,.cells sz0 (l.map (·.2)))::s.heap,s.cr+1⟩:=by
 have hp:=ui he hl;unfold gw at h;split at h
 case h_2=>cases h
 rename_i e hu;split at h
 case h_2=>cases h
 rename_i sz z eG hz;split at h
 case isFalse=>cases h
 rename_i hc;obtain⟨rfl,h2,h3,h4,h5,h6⟩:=hc;cases h;obtain⟨zv,Pe,LX⟩:=kw hz w G;let zc:Array Value:=if l.length*sz=0 then #[]else zv.cells
 let c0:Array Value:=(Array.range (l.length*sz)).map (zc[· %zc.size]!);have Wn:VL G (List.replicate (l.length*sz) AV.any) c0:=⟨by simp[c0],λi x y hx _=>by
  rw[Va]at hx;split at hx
  ·cases hx;exact .any _
  ·cases hx⟩
 have pI:=ta (sz:=sz) (st:=0) (cells:=List.replicate (l.length*sz) AV.any) h2 h3 (by simp);simp only[VU,Re,sA]at pI;obtain⟨ov,f1,f2⟩:=uh (place':=λi=>some (i*sz,sz)) (λi q hq=>hq) Wn hp pI;have jz: ∀y∈l.map (·.2),y.cells.length=sz:=λy hy=>by
  obtain⟨p,hp,rfl⟩:=kl.1 hy;exact(h3 p hp).1
 have dJ:ov.size=l.length*sz:=by rw[<-f2.1,dO jz];simp
 rw[hu]at YJ;have Rs:=Option.some.inj YJ;subst Rs;rw[eG]at Rm;have Wx:=Option.some.inj Rm;subst Wx;have fM:(Instr.buildSlice t l.length (cR.map λ(i,x)=>(i,a.eval x))).run P w=.ok (.slice (some ⟨w.heap.size,0,none⟩) l.length l.length) (w.alloc (.cells ov e)):=by
  have h4': ¬(2^24<l.length*sz):=by omega
  have aae: ¬(16777216<l.length*sz):=by omega
  simp only[Instr.buildSlice,Sem.run_bind,run_underlying (fO hu),eI eG,Result.andThen_ok,gt_iff_lt,dY h4',Yq];have J5:Instr.fill (λi=>some (i*sz,sz)) c0 (cR.toList.map λp=>(p.1,a.eval p.2))=some ov:=f1;by_cases hN:l.length*sz=0
  ·rw[dP hN];simp only[c0,zc,dP hN]at J5;simp only[pure_bind,J5];simp[newRow]
  ·rw[dY hN];simp only[c0,zc,dY hN]at J5;simp only[Sem.run_bind,Pe,Result.andThen_ok,Sem.run_pure,J5];simp[newRow]
 have kM: ∀k y,(dB (l.map (·.2)))[k]? =some y-> ∃v,ov[k]? =some v/\V G y v:=λk y hk=>f2.get hk;obtain⟨q1,q2⟩:=hs.put (o:=.cells ov e) (blk:=.cells sz (l.map (·.2))) (r:=⟨w.heap.size,0,sz,ov.size⟩) rfl
  (.cells _ _ _ _ rfl rfl h5 jz (λy hy=>by
   rw[dB,tK]at hy;obtain⟨q,hq,hy⟩:=hy;obtain⟨p,hp,rfl⟩:=kl.1 hq;exact kx (h3 p hp).2 y hy) (by rw[dJ];simp) λk y hk=>by
   obtain⟨v,e1,e2⟩:=kM k y hk;exact⟨v,by simpa using e1,e2.mono (.put (hs.cE _ (eD _)))⟩)
 refine⟨_,_,_,fM,?_,q1,q2⟩;exact .ms s.cr 0 _ _ ⟨w.heap.size,0,sz,ov.size⟩ 0 (by simp[cx.put]) (eD _) (by rw[dJ];simp) (λ_=>by simp)
theorem Mu(hs:eQ G s w)(he:jx G bX a.tmps)(o:Oper){x:AV}(h:GU P o.op bX s=some (x,s')):L1 P G s w (execOp a.eval o) x s':=by
 unfold GU at h;obtain⟨dst,op,type,pos,after,guard⟩:=o;simp only at h;split at h
 case h_2=>cases h
 rename_i t len cR;split at h
 case h_2=>cases h
 rename_i l hl;split at h
 case h_2=>cases h
 rename_i y e hb YJ;split at h
 case h_2=>cases h
 rename_i sz eG;cases h;exact(CI hs he hl hb YJ eG).next
theorem Km{o:Oper}{r:AV×St}(h:GU P o.op bX s=some r): ∃t len cR,o.op=.buildSlice t len cR:=by
 unfold GU at h;split at h
 ·rename_i hq;exact⟨_,_,_,hq⟩
 ·cases h
end
section
variable {P:Program} {N:Nat} {ρ:Option Nat} {Q:Exit->Env->St->Prop} {bX:Env} {s:St} {a:Act} {G:cx} {w:World}
def aao(P:Program)(g:FuncId)(args:List AV)(s:St)(v:AV):Prop:= ∀G w vs,eQ G s w->VL G args vs-> ∃val,(callFunc g vs).run P w=.ok (.value val) w/\V G v val
def WV(P:Program)(op:Op)(bX:Env)(s:St)(v:AV):Prop:= ∃f args g gk l,gx op=some (f,args)/\oper bX f=some (.fn g gk)/\opers bX args=some l/\aao P g (l++gk) s v
def Tj(P:Program)(o:Oper)(K:AV->St->Prop)(bX:Env)(s:St):Prop:=V8 P o K bX s\/(∃v s',GU P o.op bX s=some (v,s')/\K v s')\/ ∃v,WV P o.op bX s v/\K v s
theorem GV{o:Oper}{K:AV->St->Prop}{next:Act->World->Prop}{R:Exit->Act->World->Prop}(h:Tj P o K bX s)(hn:xF G N ρ bX s a w)(ro:Option Nat)
  (hK: ∀v G' x s' w',V G' x v->eQ G' s' w'->Ext G s w G' s' w'->K x s'->next (a.put o.dst v) w'):o.wpIn (vx ro) 0 P a w next R:=by
 rcases h with h|⟨x,s',hx,hk⟩|⟨x,⟨f,args,g,gk,l,hc,hf,hl,hx⟩,hk⟩
 ·exact vE h hn ro hK
 case inr.inr=>
  refine⟨λ_ _=>trivial,?_⟩;obtain⟨arr,ts,yB,rfl⟩:=Bv hc;have Cx:o.semAt (vx ro).round a.eval=execOp a.eval o:=Oper.semAt_eq _ _ _ (λc=>by rw[yB];simp);rw[Cx];have Ir:=fe hn.bX hf;have Is:=ue hn.bX hl;generalize hq:a.eval f=fv at Ir;cases Ir with
  |fn _ _ vs h1 h2=>
   obtain⟨val,e1,e2⟩:=hx G w _ hn.jd (Is.append ⟨h1,h2⟩);have fM:(execOp a.eval o).run P w=.ok (.value val) w:=by
    simp[execOp,yB,resolve,Deferred.ofValue,hq,invoke,e1]
   rw[fM,Oper.uponIn_value];exact hK val G x s w e2 hn.jd (.refl _ _ _) hk
 ·refine⟨λ_ _=>trivial,?_⟩;obtain⟨t,len,cR,yB⟩:=Km hx;have Cx:o.semAt (vx ro).round a.eval=execOp a.eval o:=Oper.semAt_eq _ _ _ (λc=>by rw[yB];simp);rw[Cx];obtain⟨nx,v,G',w',e1,e2,e3,e4,e5⟩:=Mu hn.jd hn.bX o hx;rw[e1];rcases e2 with rfl|⟨rfl,rfl⟩
  ·rw[Oper.uponIn_value];exact hK v G' x s' w' e3 e4 e5 hk
  ·rw[Oper.uponIn_skip];exact hK undef G' x s' w' e3 e4 e5 hk
def GW(P:Program)(N:Nat)(ops:Array Oper)(K:Env->St->Prop):List Oper->Env->St->Prop
 | [],bX,s=>K bX s
 |o::r,bX,s=>ng N o.dst=true/\Yx ops o bX (Tj P o (λv s'=>GW P N ops K r (fQ o.dst v bX) s') bX s) (GW P N ops K r (fQ o.dst (.eC []) bX) s)
theorem td{ops:Array Oper}{G0:cx}{s0:St}{w0:World}(h0:eQ G0 s0 w0)(ro:Option Nat): ∀(l:List Oper)(k:Nat)(bX:Env)(s:St)(G:cx)(a:Act)(w:World),ops.toList.drop k=l->
  xF G N ρ bX s a w->Ext G0 s0 w0 G s w->GW P N ops (λbX s=>Q .normal bX s) l bX s->wpOpsIn (vx ro) 0 P ops (iy G0 N ρ s0 w0 Q) (List.range' k l.length) a w
 | [],k,bX,s,G,a,w,_,hn,hx,h=>⟨G,bX,s,hn,hx,h⟩
 |o::r,k,bX,s,G,a,w,hl,hn,hx,h=>by
  have ho:ops[k]? =some o:=by
   have:=fC (λl:List Oper=>l[0]?) hl;simpa[Lw]using this
  have hr:ops.toList.drop (k+1)=r:=by rw[<-List.drop_drop,hl];rfl
  obtain⟨hd,h⟩:=h;rw[oC,List.range'_succ];simp only[wpOpsIn,ho];rcases J7 h hn.bX with⟨hw,h⟩|⟨hw,h⟩
  ·rw[dP hw];exact GV h hn ro λv G' x s' w' hv hs he hk=>td h0 ro r (k+1) _ _ G' _ w' hr (hn.put hd hv hs he) (hx.trans h0 he) hk
  ·rw[dY (by simp[hw])];exact⟨λ_ _=>trivial,td h0 ro r (k+1) _ _ G _ w hr (hn.put hd (.eC [] #[] rfl (by simp)) hn.jd (.refl _ _ _)) hx h⟩
theorem Ey{id:Nat}{ops:Array Oper}(h:GW P N ops (λbX s=>Q .normal bX s) ops.toList bX s):mu P N ρ (.region id ops false) Q bX s:=λG w a hn=>by
 refine wpIn_region ?_;rw[ZM];exact td hn.jd _ ops.toList 0 bX s G a w rfl hn (.refl _ _ _) h
def PY(P:Program)(op:Op)(K:AV->St->Prop)(bX:Env)(s:St):Prop:=ows P op K bX s\/(∃v s',GU P op bX s=some (v,s')/\K v s')\/ ∃v,WV P op bX s v/\K v s
def qM(P:Program)(K:Env->St->Prop):List Ins->Env->St->Prop
 | [],bX,s=>K bX s
 |i::r,bX,s=>Gg i.guard bX (PY P i.op (λv s'=>qM P K r (fQ i.dst v bX) s') bX s) (qM P K r (fQ i.dst (.eC []) bX) s)
theorem uo{ops:Array Oper}{K:Env->St->Prop}(hg:oN ops.toList=true): ∀{l:List Oper}{bX:Env}{s:St},(∀o∈l,o∈ops.toList)->qD N l=true->
  qM P K (l.map (mF ops.toList)) bX s->GW P N ops K l bX s
 | [],_,_,_,_,h=>h
 |o::r,bX,s,hm,hd,h=>by
  simp only[qD,Yk,fE]at hd;have ih: ∀{bX:Env}{s:St},qM P K (r.map (mF ops.toList)) bX s->GW P N ops K r bX s:=uo hg (λo ho=>hm o (by simp[ho])) hd.2;refine⟨hd.1,?_⟩;simp only[wy,qM]at h;have WW: ∀{bX:Env}{s:St},PY P o.op (λv s'=>qM P K (r.map (mF ops.toList)) (fQ o.dst v bX) s') bX s->Tj P o (λv s'=>GW P N ops K r (fQ o.dst v bX) s') bX s:=by
   intro bX s h;rcases h with h|⟨v,s',hx,hk⟩|⟨v,hx,hk⟩
   case inr.inl=>exact .inr (.inl ⟨v,s',hx,ih hk⟩)
   case inr.inr=>exact .inr (.inr ⟨v,hx,ih hk⟩)
   refine .inl ?_;unfold ows at h;unfold V8;split at h
   ·rename_i f args hc;simp only[hc];split at h
    ·rename_i g gk l h1 h2;simp only[h1,h2];exact⟨h.1,h.2.mono λ_ _ hk=>ih hk⟩
    ·rename_i id l h1 h2;simp only[h1,h2];exact h.mono λ_ _ hk=>ih hk
    ·cases h
   ·rename_i hc;simp only[hc];split at h
    ·rename_i v s' hx;simp only[hx];exact ih h
    ·cases h
  have Rq:=(pA.1 hg) o (hm o (by simp));unfold Yx;unfold mF Gg at h;cases hq:o.guard with
  |none=>simp only[hq]at h |-;exact WW h
  |some jw=>
   obtain⟨j,want⟩:=jw;simp only[hq]at h Rq |-
   obtain⟨d,vq⟩:=Bp.1 Rq;rw[show ops[j]? =ops.toList[j]? from by simp];rw[vq]at h |-
   simp only at h |-
   split at h
   ·rename_i b hb;simp only[hb];exact⟨λe=>WW (h.1 e),λe=>ih (h.2 e)⟩
   ·rename_i hb;simp only[hb];exact ih h
   ·cases h
theorem Mw{id:Nat}{ops:Array Oper}{K:Env->St->Prop}(l:List Oper)(hl:ops.toList=l)(hg:oN l=true)(hd:qD N l=true)(h:qM P (λbX s=>Q .normal bX s) (ins l) bX s):
  mu P N ρ (.region id ops false) Q bX s:=by
 subst hl;exact Ey (uo hg (λ_ h=>h) hd h)
def oc:AV->Prop
 |.sl _ l=>l=[]
 |.ms _ _ n=>n=0
 |_=>False
def qN(P:Program)(op:Op)(bX:Env):Option AV:=match op with
 |.binOp .eql t x (.const (.slice none 0 0)) _=>match eH P t,oper bX x with
  |some _,some (.sl b l)=>some (.sl b l)
  |some _,some (.ms i a n)=>some (.ms i a n)
  |_,_=>none
 |_=>none
theorem PZ{o:Oper}{x:AV}(hn:xF G N ρ bX s a w)(h:qN P o.op bX=some x): ∃b:Bool,(b=true->oc x)/\(execOp a.eval o).run P w=.ok (.value (.bool b)) w:=by
 unfold qN at h;obtain⟨dst,op,type,pos,after,guard⟩:=o;simp only at h;split at h
 case h_2=>cases h
 rename_i t y yt;have key: ∀{cn:Option Addr}{n cap:Nat}{b:Bool},a.eval y=.slice cn n cap->(binOp .eql t (.slice cn n cap) (.slice none 0 0)).run P w=.ok (.bool b) w->
   (execOp a.eval ⟨dst,.binOp .eql t y (.const (.slice none 0 0)) yt,type,pos,after,guard⟩).run P w=.ok (.value (.bool b)) w:=λ{cn n cap b}hq hr=>by
  have hc:a.eval (.const (.slice none 0 0))=.slice none 0 0:=rfl;have hg:=qB (P:=P) (w:=w) (op:=.eql) (t:=t) (x:=y) (y:=.const (.slice none 0 0)) (xv:=.slice cn n cap) (yv:=.slice none 0 0) (.inr ⟨by simp,by simp⟩);simp only[execOp,hq,hc];simp[hg,hr]
 split at h
 ·rename_i e full l he hy;cases h;have hv:=fe hn.bX hy;generalize hq:a.eval y=v at hv;obtain⟨cn,cap,rfl,_,_,hb,hz⟩:=V.qy hv;refine⟨cn.isNone,λe=>?_,?_⟩
  ·rcases hz with hz|⟨b,off,cN,val,hz,_⟩
   ·exact hz
   ·subst hz;cases e
  ·have:=Lib.run_eql_slice_nil (P:=P) w t e cn l.length cap 0 0 (fO he);exact key hq this
 ·rename_i e id st n he hy;cases h;have hv:=fe hn.bX hy;generalize hq:a.eval y=v at hv;cases hv with
  |ms _ _ _ cap r addr ho eP fB ha=>
   refine⟨false,λe=>(by cases e),?_⟩;have:=Lib.run_eql_slice_nil (P:=P) w t e (some ⟨r.block,addr,none⟩) n cap 0 0 (fO he);exact key hq this
  |ia _ _ cap cn hc=>
   refine⟨cn.isNone,λ_=>rfl,?_⟩;have:=Lib.run_eql_slice_nil (P:=P) w t e cn 0 cap 0 0 (fO he);exact key hq this
 ·cases h
theorem P0{c y:Code}{id:Nat}{ops:Array Oper}{o1 o2:Oper}{x v:AV}(hc:c=.seq (.region id ops false) y)(Mx:ops.toList=[o1,o2])(h1:jc P o1.op bX s=some (v,s))(hl1:gx o1.op=none)(hd:ng N o1.dst=true/\ng N o2.dst=true)
  (hg:o1.guard=none/\o2.guard=none) (hx:qN P o2.op (fQ o1.dst v bX)=some x)
  (h: ∀b:Bool,(b=true->oc x)->mu P N ρ y Q (fQ o2.dst (.bool b) (fQ o1.dst v bX)) s):mu P N ρ c Q bX s:=by
 subst hc;refine Cp λG w a hn=>wpIn_region ?_;have eG:ops.size=2:=by rw[<-F8,Mx];rfl
 have e0:ops[0]? =some o1:=by rw[<-ZI,Mx];rfl
 have e1:ops[1]? =some o2:=by rw[<-ZI,Mx];rfl
 rw[eG];show wpOpsIn _ 0 P ops _ [0,1] a w;simp only[wpOpsIn,e0];rw[dP (by simp[Region.wanted,hg.1])];refine vE (K:=λv' s'=>v'=v/\s'=s) ?_ hn _ ?_
 ·unfold V8;simp only[hl1,h1];exact⟨trivial,trivial⟩
 rintro v1 G1 x1 s1 w1 Lm Wx hx1 ⟨rfl,rfl⟩;have hn1:=hn.put hd.1 Lm Wx hx1;simp only[e1];rw[dP (by simp[Region.wanted,hg.2])];refine⟨λ_ _=>trivial,?_⟩;have aap: ∀c,o2.op≠ .defer c:=λc e=>by rw[e]at hx;simp[qN]at hx
 have Cx:o2.semAt (vx (xd G ρ)).round (a.put o1.dst v1).eval=execOp (a.put o1.dst v1).eval o2:=Oper.semAt_eq _ _ _ (λc=>by
  intro e;exact aap c e)
 rw[Cx];obtain⟨b,hb,fM⟩:=PZ hn1 hx;rw[fM,Oper.uponIn_value];have SM:=hn1.put (d:=o2.dst) hd.2 (V.bool b) hn1.jd (.refl _ _ _);exact⟨G1,_,s1,SM,hx1,h b hb⟩
def CJ(P:Program)(N:Nat)(c:Code)(bX:Env)(s:St):Option (Code×Option Nat×Env×AV):=match c with
 |.seq (.region _ ops false) y=>match ops.toList with
  | [o1,o2]=>bif o1.guard.isNone&&o2.guard.isNone&&ng N o1.dst&&ng N o2.dst&&gu o1.op&&(gx o1.op).isNone then
    match jc P o1.op bX s with
    |some (v,_)=>match qN P o2.op (fQ o1.dst v bX)with
     |some x=>some (y,o2.dst,fQ o1.dst v bX,x)
     |none=>none
    |none=>none
   else none
  |_=>none
 |_=>none
theorem Tk{c:Code}(y:Code)(d:Option Nat)(E1:Env)(x:AV)(hx:CJ P N c bX s=some (y,d,E1,x))(h: ∀b:Bool,(b=true->oc x)->mu P N ρ y Q (fQ d (.bool b) E1) s):mu P N ρ c Q bX s:=by
 unfold CJ at hx;split at hx
 case h_2=>cases hx
 rename_i id ops y';split at hx
 case h_2=>cases hx
 rename_i o1 o2 Mx;generalize hq:(o1.guard.isNone&&o2.guard.isNone&&ng N o1.dst&&ng N o2.dst&&gu o1.op&&(gx o1.op).isNone)=q at hx;cases q with
 |false=>cases hx
 |true=>
  simp only[fE,Option.isNone_iff_eq_none]at hq;simp only[dt]at hx;split at hx
  case h_2=>cases hx
  rename_i v s1 hv;split at hx
  case h_2=>cases hx
  rename_i x0 PK;cases hx;have:=pL hq.1.2 hv;subst this;exact P0 rfl Mx hv hq.2 ⟨hq.1.1.1.2,hq.1.1.2⟩ ⟨hq.1.1.1.1.1,hq.1.1.1.1.2⟩ PK h
theorem WX{α:Type}{l:List α}{e:α->AV}{b:Bool}(h:oc (.sl b (l.map e))):l=[]:=by simpa[oc]using h
theorem WY{α:Type}{l:List α}{i:Nat}(h:oc (.ms i 0 l.length)):l=[]:=by simpa[oc]using h
end
end Go.Am
end
section
namespace Go.Am
open Go.RowKit
theorem mG{α β:Type}{o:Option α}{f:α->Option β}{r:β}(h:o.bind f=some r): ∃a,o=some a/\f a=some r:=by
 cases o with
 |none=>cases h
 |some a=>exact⟨a,rfl,h⟩
theorem aaq{α:Type}{b:Bool}{x y:Option α}{r:α}(h:(bif b then x else y)=some r):(b=true/\x=some r)\/(b=false/\y=some r):=by
 cases b with
 |true=>exact .inl ⟨rfl,h⟩
 |false=>exact .inr ⟨rfl,h⟩
def cB{α:Type}(p:Prop)[Decidable p](x:Option α):Option α:=if p then x else none
theorem wM{α:Type}{p:Prop}[Decidable p]{x:Option α}{r:α}(h:cB p x=some r):p/\x=some r:=by
 unfold cB at h;split at h
 ·rename_i hp;exact⟨hp,h⟩
 ·cases h
def ix{α:Type}(l:List α)(i:Int):Option α:=if 0<=i then l[i.toNat]? else none
theorem P2{α:Type}{l:List α}{i:Int}{x:α}(h:ix l i=some x):0<=i/\l[i.toNat]? =some x:=by
 unfold ix at h;split at h
 ·rename_i hp;exact⟨hp,h⟩
 ·cases h
theorem aar{α:Type}{l:List α}{i:Int}{x:α}(h:ix l i=some x):i<l.length:=by
 obtain⟨h0,h1⟩:=P2 h;have:=(fT.1 h1).1;omega
theorem dT{α:Type}(l:List α)(e:α->AV)(h: ∀x,(e x).dI=true):fj (l.map e)=true:=by
 rw[eJ];intro y hy;obtain⟨x,_,rfl⟩:=kl.1 hy;exact h x
def A9:Code->List Code
 |.seq a b=>.seq a b::(A9 a++A9 b)
 |.cond o a b=>.cond o a b::(A9 a++A9 b)
 |.block i a=>.block i a::A9 a
 |.loop a=>.loop a::A9 a
 |.rangeFunc f p a b=>.rangeFunc f p a b::(A9 a++A9 b)
 |.scope a=>.scope a::A9 a
 |c=>[c]
def WZ:List Code->Nat->Code
 | [],_=>.skip
 |c::_,0=>c
 |_::r,n+1=>WZ r n
def yQ(h h2:List (Nat×gU)):Bool:=h.all λp=>!um p.2||(match bJ h2 p.1 with
 |some b=>um b
 |none=>false)
theorem mV{h h2:List (Nat×gU)}(hk:yQ h h2=true)(id:Nat)(e:bJ h id=some .gK):bJ h2 id=some .gK:=by
 have:=pA.1 hk _ (oR e);simp only[um,qc,Ii]at this;split at this
 ·rename_i b hb;cases b with
  |gK=>exact hb
  |cells _ _=>cases this
  |loop _=>cases this
 ·cases this
section
variable {P:Program} {N:Nat} {ρ:Option Nat} {Q Q':Exit->Env->St->Prop} {bX E2:Env} {s S2:St} {c:Code}
end
section
variable {P:Program} {N:Nat} {ρ:Option Nat} {Q Q':Exit->Env->St->Prop} {bX:Env} {s:St} {c:Code}
end
def pi(L:List (Nat×Nat))(id:Nat):Nat:=match bJ L id with
 |some x=>x
 |none=>id
inductive RD (ok:Nat->Bool) (π:Nat->Nat) (cn:Nat) (s:St):List (Nat×gU)->Prop
 |z:RD ok π cn s []
 |k {id:Nat} {x x':gU} {r:List (Nat×gU)} (hg:bJ s.heap (π id)=some x') (hc:A0 ok π x x') (hr:RD ok π cn s r):RD ok π cn s ((id,x)::r)
 |n {id cN:Nat} {r:List (Nat×gU)} (h1:Nat.ble cn id=true) (h2:Nat.ble s.cr (π id)=true) (h3:Nat.blt 0 cN=true) (hr:RD ok π cn s r):RD ok π cn s ((id,.cells cN [])::r)
theorem RD.get{ok:Nat->Bool}{π:Nat->Nat}{cn:Nat}{s:St}: ∀{l:List (Nat×gU)},RD ok π cn s l-> ∀id b,bJ l id=some b->
  (∃b',bJ s.heap (π id)=some b'/\A0 ok π b b')\/(cn<=id/\s.cr<=π id/\ ∃cN,0<cN/\b=.cells cN [])
 |_,.z,id,b,h=>by simp[di,cZ]at h
 |_,.k hg hc hr,id,b,h=>by
  simp only[di,cZ]at h;split at h
  ·rename_i e;cases h;subst e;exact .inl ⟨_,hg,hc⟩
  ·exact hr.get id b h
 |_,.n h1 h2 h3 hr,id,b,h=>by
  simp only[di,cZ]at h;split at h
  ·rename_i e;cases h;subst e;exact .inr ⟨tR h1,tR h2,_,by simpa[ru]using h3,rfl⟩
  ·exact hr.get id b h
theorem Tl{cn:Nat}{L:List (Nat×Nat)}(h:L.all (λp=>Nat.ble cn p.1)=true){id:Nat}(hl:id<cn):pi L id=id:=by
 unfold pi;cases hg:bJ L id with
 |none=>rfl
 |some x=>
  have:=pA.1 h _ (oR hg);simp only[JP]at this;omega
section
variable {P:Program} {N:Nat} {ρ:Option Nat} {Q Q':Exit->Env->St->Prop} {bX:Env} {s:St} {c:Code}
theorem RE{f:FuncId}{args:List AV}{K:AV->St->Prop}(N':Nat)(rs:List ResultVar)(c:Code)(E:Env)(hf:((P.funcs[f]?).bind λfn=>fn.body.map λb=>(fn.ntmps,fn.results.toList,b))=some (N',rs,c))(hE:nY args 0=E)
  (hn:Nat.ble args.length N'=true) (hd:nL s.heap=true) (h:mu P N' none c (J8 P rs.toArray K) E s):dQ P f args s K:=by
 cases hq:P.funcs[f]? with
 |none=>simp[hq]at hf
 |some fn=>
  simp only[hq,dm]at hf;cases hb:fn.body with
  |none=>simp[hb]at hf
  |some c'=>
   simp only[hb,gX,Option.some.injEq,Prod.mk.injEq]at hf;obtain⟨h1,h2,h3⟩:=hf;subst h1;subst h2;subst h3;subst hE;exact Cy hq hb (tR hn) (oQ hd) (by simpa using h)
end
def eK(x y:Int):Int:=x.fdiv (2^(min y.toNat 64))
abbrev wr(x:Int):Int:=IntKind.i64.wrap x
def yR(x y:Int):Int:=if y<x then y else x
def kX(x y:Int):Int:=if x<y then y else x
abbrev cQ:Nat:=18446744073709551616
def SL{α:Type}(e:α->AV)(l:List α):AV:=.sl false (l.map e)
theorem BC{α:Type}{e:α->AV}(h: ∀x,(e x).dI=true)(l:List α):(SL e l).dI=true:=dT l e h
theorem sG(n:Int):(AV.i n).dI=true:=rfl
theorem xI(n:Bool):(AV.bool n).dI=true:=rfl
theorem Tm(n:ByteArray):(AV.str n).dI=true:=rfl
theorem gG{x:AV}{xs:List AV}(h:x.dI=true)(hs:fj xs=true):fj (x::xs)=true:=by simp[fj,h,hs]
theorem xJ:fj []=true:=rfl
section
variable {α:Type} {l m:List α} (e:α->AV)
end
end Go.Am
end
section
namespace Go.Am
open Go.RowKit
section
variable {α:Type} {l:List α} {i:Int} {x:α} (e:α->AV)
end
section
variable {P:Program} {N:Nat} {ρ:Option Nat} {Q:Exit->Env->St->Prop} {bX:Env} {s:St} {c:Code}
end
section
variable {α:Type} {l:List α} {a n:Nat} (e:α->AV)
end
end Go.Am
end
section
namespace Go.Am
open Go.RowKit
section
variable {α:Type}
end
end Go.Am
end
section
namespace Go.Am
open Go.RowKit
theorem kC{P:Program}{b:Frame}{a:Act}{k:List Item}{cs:List Frame}{w:World}{c:Code}:step P (lone (b.atR a (.code (.scope c)::k)) cs w)=.next (lone (b.atR a (.code c::.inScope c::k)) cs w):=
 step_lone_go (by simp[stepG,stepG.exec,Frame.atR])
theorem Ba{P:Program}{b:Frame}{a:Act}{k:List Item}{cs:List Frame}{w:World}{c:Code}:step P (lone (b.atR a (.inScope c::k)) cs w)=.next (lone (b.atR a k) cs w):=
 step_lone_go (by simp[stepG,stepG.exec,Frame.atR])
theorem GX{P:Program}{F:Fence}{n:Nat}{Q:Exit->Act->World->Prop}{a:Act}{w:World}{c:Code}(h:c.wpIn F n P Q a w)(hng: ∀l a w,¬Q (.goto l) a w):(Code.scope c).wpIn F n P Q a w:=by
 intro b k cs JU hb hr;have h0:(lone (b.atR a (.code (.scope c)::k)) cs w).fenced P F:=fenced_calm hb hr rfl;obtain⟨e,xf,xg,hq,sZ⟩:=h b (.inScope c::k) cs JU hb hr;cases e with
 |normal=>exact⟨.normal,xf,xg,hq,.head h0 kC (StepsIn.trans sZ (.one (fenced_calm hb hr rfl) Ba))⟩
 |exit id=>
  have hx:exitTo id (.inScope c::k)=exitTo id k:=by simp[exitTo]
  exact⟨.exit id,xf,xg,hq,λk' hk=>.head h0 kC (sZ.1 k' (by rw[hx];exact hk)),
   λGY hk=>let⟨aas,h1,h2⟩:=sZ.2 GY (by rw[hx];exact hk);⟨aas,h1,.head h0 kC h2⟩⟩
 |goto l=>exact(hng _ _ _ hq).elim
 |ret=>exact⟨_,xf,xg,hq,.of_steps (.one h0 kC) sZ⟩
 |panic ch=>exact⟨_,xf,xg,hq,.of_steps (.one h0 kC) sZ⟩
 |outgrown=>exact⟨_,xf,xg,hq,.of_steps (.one h0 kC) sZ⟩
theorem Kn{P:Program}{N:Nat}{ρ:Option Nat}{Q:Exit->Env->St->Prop}{bX:Env}{s:St}{c:Code}(h:mu P N ρ c Q bX s)(hng: ∀l bX s,¬Q (.goto l) bX s):mu P N ρ (.scope c) Q bX s:=λG w a hn=>
 GX (h G w a hn) λl a' w' ⟨_,env',s',_,_,hq⟩=>hng l env' s' hq
end Go.Am
end
