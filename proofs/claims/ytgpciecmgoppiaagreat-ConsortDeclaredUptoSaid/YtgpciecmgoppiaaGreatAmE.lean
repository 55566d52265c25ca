/- The logic AM, E: rules of which generated walks are made. -/
import Derived.Test.YtgpciecmgoppiaaGreatAm26
import Derived.WalkSpells
import Derived.KernelRfl
import Derived.Laws.Externs
set_option linter.all false
section
namespace Go.Am
open Go.RowKit
def Cq(P:Program)(op:Op)(bf:Env)(s:St):Option (AV×St):=match op with
 |.buildSlice t len bW=>match mq bf bW.toList with
  |some l=>match gG P t len l,dy P t with
   |some _,some e=>match cK P e with
    |some sz=>some (.ms s.bN 0 l.length,⟨(s.bN,.cells sz (l.map (·.2)))::s.heap,s.bN+1⟩)
    |none=>none
   |_,_=>none
  |none=>none
 |_=>none
section
variable {P:Program} {G:bS} {s s':St} {w:World} {bf:Env} {a:Act}
theorem Cr(hs:eG G s w)(he:iL G bf a.tmps){t len:Nat}{bW:Array (Nat×Operand)}{l:List (Nat×AV)}{x:AV}{e0 sz0:Nat}(hl:mq bf bW.toList=some l)(h:gG P t len l=some x)(Ze:dy P t=some e0)(PF:cK P e0=some sz0):
  tu P G s w (Instr.buildSlice t len (bW.map λ(i,x)=>(i,a.eval x))) (.ms s.bN 0 l.length) ⟨(s.bN,.cells sz0 (l.map (·.2)))::s.heap,s.bN+1⟩:=by
 have hp:=tU he hl;unfold gG at h;split at h
 case h_2=>cases h
 rename_i e hu;split at h
 case h_2=>cases h
 rename_i sz z eB hz;split at h
 case isFalse=>cases h
 rename_i hc;obtain⟨rfl,h2,h3,h4,h5,h6⟩:=hc;cases h;obtain⟨zv,PE,Ml⟩:=kv hz w G;let zc:Array Value:=if l.length*sz=0 then #[]else zv.cells
 let c0:Array Value:=(Array.range (l.length*sz)).map (zc[· %zc.size]!);have WL:VL G (List.replicate (l.length*sz) AV.any) c0:=⟨by simp[c0],λi x y hx _=>by
  rw[List.getElem?_replicate]at hx;split at hx
  ·cases hx;exact .any _
  ·cases hx⟩
 have sH:=sJ (sz:=sz) (st:=0) (cells:=List.replicate (l.length*sz) AV.any) h2 h3 (by simp);simp only[Nat.zero_mul,S9,xm]at sH;obtain⟨ov,f1,f2⟩:=tT (place':=λi=>some (i*sz,sz)) (λi q hq=>hq) WL hp sH;have jB: ∀y∈l.map (·.2),y.cells.length=sz:=λy hy=>by
  grind
 have dK:ov.size=l.length*sz:=by rw[<-f2.1,dD jB];simp
 rw[hu]at Ze;have Zf:=Option.some.inj Ze;subst Zf;rw[eB]at PF;have WX:=Option.some.inj PF;subst WX;have fP:(Instr.buildSlice t l.length (bW.map λ(i,x)=>(i,a.eval x))).run P w=.ok (.slice (some ⟨w.heap.size,0,none⟩) l.length l.length) (w.alloc (.cells ov e)):=by
  have h4': ¬(2^24<l.length*sz):=by omega
  have aap: ¬(16777216<l.length*sz):=by omega
  simp only[Instr.buildSlice,Sem.run_bind,run_underlying (fA hu),dU eB,Result.andThen_ok,gt_iff_lt,fN h4',Array.toList_map];have Qg:Instr.fill (λi=>some (i*sz,sz)) c0 (bW.toList.map λp=>(p.1,a.eval p.2))=some ov:=f1;by_cases hN:l.length*sz=0
  ·rw[ez hN];simp only[c0,zc,ez hN]at Qg;simp only[pure_bind,Qg];simp[newRow]
  ·rw[fN hN];simp only[c0,zc,fN hN]at Qg;simp only[Sem.run_bind,PE,Result.andThen_ok,Sem.run_pure,Qg];simp[newRow]
 have mu: ∀k y,(de (l.map (·.2)))[k]? =some y-> ∃v,ov[k]? =some v/\V G y v:=λk y hk=>f2.get hk;obtain⟨q1,q2⟩:=hs.put (o:=.cells ov e) (blk:=.cells sz (l.map (·.2))) (r:=⟨w.heap.size,0,sz,ov.size⟩) rfl
  (.cells _ _ _ _ rfl rfl h5 jB (λy hy=>by
   rw[de,tw]at hy
   grind) (by grind) λk y hk=>by
   obtain⟨v,e1,e2⟩:=mu k y hk;exact⟨v,by grind,e2.mono (.put (hs.cj _ (fw _)))⟩)
 refine⟨_,_,_,fP,?_,q1,q2⟩;exact .ms s.bN 0 _ _ ⟨w.heap.size,0,sz,ov.size⟩ 0 (by simp[bS.put]) (fw _) (by grind) (λ_=>by simp)
theorem MW(hs:eG G s w)(he:iL G bf a.tmps)(o:Oper){x:AV}(h:Cq P o.op bf s=some (x,s')):Mq P G s w (execOp a.eval o) x s':=by
 unfold Cq at h;obtain⟨dst,op,type,pos,after,guard⟩:=o;simp only at h;split at h
 case h_2=>cases h
 rename_i t len bW;split at h
 case h_2=>cases h
 rename_i l hl;split at h
 case h_2=>cases h
 rename_i y e hb Ze;split at h
 case h_2=>cases h
 rename_i sz eB;cases h;exact(Cr hs he hl hb Ze eB).next
theorem KF{o:Oper}{r:AV×St}(h:Cq P o.op bf s=some r): ∃t len bW,o.op=.buildSlice t len bW:=by
 unfold Cq at h
 grind
end
section
variable {P:Program} {N:Nat} {ρ:Option Nat} {Q:Exit->Env->St->Prop} {bf:Env} {s:St} {a:Act} {G:bS} {w:World}
def T4(P:Program)(g:FuncId)(args:List AV)(s:St)(v:AV):Prop:= ∀G w vs,eG G s w->VL G args vs-> ∃val,(callFunc g vs).run P w=.ok (.value val) w/\V G v val
def Xj(P:Program)(op:Op)(bf:Env)(s:St)(v:AV):Prop:= ∃f args g fi l,fW op=some (f,args)/\oper bf f=some (.fn g fi)/\opers bf args=some l/\T4 P g (l++fi) s v
def T5(P:Program)(o:Oper)(K:AV->St->Prop)(bf:Env)(s:St):Prop:=Wy P o K bf s\/(∃v s',Cq P o.op bf s=some (v,s')/\K v s')\/(∃v,Xj P o.op bf s v/\K v s)\/Kn P o.op K bf s
theorem GQ{o:Oper}{K:AV->St->Prop}{next:Act->World->Prop}{R:Exit->Act->World->Prop}(h:T5 P o K bf s)(hn:wj G N ρ bf s a w)(ro:Option Nat)
  (hK: ∀v G' x s' w',V G' x v->eG G' s' w'->Ext G s w G' s' w'->K x s'->next (a.put o.dst v) w'):o.wpIn (tt ro) 0 P a w next R:=by
 rcases h with h|⟨x,s',hx,hk⟩|⟨x,⟨f,args,g,fi,l,hc,hf,hl,hx⟩,hk⟩|h
 ·exact vw h hn ro hK
 case inr.inr.inr=>exact yo h hn ro hK
 case inr.inr.inl=>
  refine⟨λ_ _=>trivial,?_⟩;obtain⟨arr,ts,Dv,rfl⟩:=Bb hc;have yk:o.semAt (tt ro).round a.eval=execOp a.eval o:=Oper.semAt_eq _ _ _ (λc=>by rw[Dv];simp);rw[yk];have Ip:=eJ hn.bf hf;have Iq:=tH hn.bf hl;generalize hq:a.eval f=fv at Ip;cases Ip with
  |fn _ _ vs h1 h2=>
   obtain⟨val,e1,e2⟩:=hx G w _ hn.iB (Iq.append ⟨h1,h2⟩);have fP:(execOp a.eval o).run P w=.ok (.value val) w:=by
    simp[execOp,Dv,resolve,Deferred.ofValue,hq,invoke,e1]
   rw[fP,Oper.uponIn_value];exact hK val G x s w e2 hn.iB (.refl _ _ _) hk
 ·refine⟨λ_ _=>trivial,?_⟩;obtain⟨t,len,bW,Dv⟩:=KF hx;have yk:o.semAt (tt ro).round a.eval=execOp a.eval o:=Oper.semAt_eq _ _ _ (λc=>by grind);rw[yk];obtain⟨nx,v,G',w',e1,e2,e3,e4,e5⟩:=MW hn.iB hn.bf o hx
  grind [Oper.uponIn_value,Oper.uponIn_skip]
def GR(P:Program)(N:Nat)(ops:Array Oper)(K:Env->St->Prop):List Oper->Env->St->Prop
 | [],bf,s=>K bf s
 |o::r,bf,s=>mY N o.dst=true/\YY ops o bf (T5 P o (λv s'=>GR P N ops K r (eH o.dst v bf) s') bf s) (GR P N ops K r (eH o.dst (.dS []) bf) s)
theorem sO{ops:Array Oper}{G0:bS}{s0:St}{w0:World}(h0:eG G0 s0 w0)(ro:Option Nat): ∀(l:List Oper)(k:Nat)(bf:Env)(s:St)(G:bS)(a:Act)(w:World),ops.toList.drop k=l->
  wj G N ρ bf s a w->Ext G0 s0 w0 G s w->GR P N ops (λbf s=>Q .normal bf s) l bf s->wpOpsIn (tt ro) 0 P ops (im G0 N ρ s0 w0 Q) (List.range' k l.length) a w
 | [],k,bf,s,G,a,w,_,hn,hx,h=>⟨G,bf,s,hn,hx,h⟩
 |o::r,k,bf,s,G,a,w,hl,hn,hx,h=>by
  have ho:ops[k]? =some o:=by
   have:=fL (λl:List Oper=>l[0]?) hl
   grind
  have hr:ops.toList.drop (k+1)=r:=by rw[<-List.drop_drop,hl];rfl
  obtain⟨hd,h⟩:=h;rw[vl,List.range'_succ];simp only[wpOpsIn,ho];rcases Kl h hn.bf with⟨hw,h⟩|⟨hw,h⟩
  ·rw[ez hw];exact GQ h hn ro λv G' x s' w' hv hs he hk=>sO h0 ro r (k+1) _ _ G' _ w' hr (hn.put hd hv hs he) (hx.trans h0 he) hk
  ·rw[fN (by simp[hw])];exact⟨λ_ _=>trivial,sO h0 ro r (k+1) _ _ G _ w hr (hn.put hd (.dS [] #[] rfl (by simp)) hn.iB (.refl _ _ _)) hx h⟩
theorem wB{id:Nat}{ops:Array Oper}(h:GR P N ops (λbf s=>Q .normal bf s) ops.toList bf s):gY P N ρ (.region id ops false) Q bf s:=λG w a hn=>by
 refine wpIn_region ?_;rw[zD3];exact sO hn.iB _ ops.toList 0 bf s G a w rfl hn (.refl _ _ _) h
def MX(P:Program)(op:Op)(K:AV->St->Prop)(bf:Env)(s:St):Prop:=ows P op K bf s\/(∃v s',Cq P op bf s=some (v,s')/\K v s')\/(∃v,Xj P op bf s v/\K v s)\/Kn P op K bf s
def oC(P:Program)(K:Env->St->Prop):List Ins->Env->St->Prop
 | [],bf,s=>K bf s
 |i::r,bf,s=>DQ i.guard bf (MX P i.op (λv s'=>oC P K r (eH i.dst v bf) s') bf s) (oC P K r (eH i.dst (.dS []) bf) s)
theorem pp{ops:Array Oper}{K:Env->St->Prop}(hg:jY ops.toList=true): ∀{l:List Oper}{bf:Env}{s:St},(∀o∈l,o∈ops.toList)->mw N l=true->
  oC P K (l.map (mG ops.toList)) bf s->GR P N ops K l bf s
 | [],_,_,_,_,h=>h
 |o::r,bf,s,hm,hd,h=>by
  simp only[mw,VJ,eU]at hd;have ih: ∀{bf:Env}{s:St},oC P K (r.map (mG ops.toList)) bf s->GR P N ops K r bf s:=pp hg (λo ho=>hm o (by simp[ho])) hd.2;refine⟨hd.1,?_⟩;simp only[Aj,oC]at h;have Xk: ∀{bf:Env}{s:St},MX P o.op (λv s'=>oC P K (r.map (mG ops.toList)) (eH o.dst v bf) s') bf s->T5 P o (λv s'=>GR P N ops K r (eH o.dst v bf) s') bf s:=by
   intro bf s h;rcases h with h|⟨v,s',hx,hk⟩|⟨v,hx,hk⟩|h
   case inr.inl=>exact .inr (.inl ⟨v,s',hx,ih hk⟩)
   case inr.inr.inl=>exact .inr (.inr (.inl ⟨v,hx,ih hk⟩))
   case inr.inr.inr=>exact .inr (.inr (.inr (Bd h λ_ _ hk=>ih hk)))
   refine .inl ?_;unfold ows at h;unfold Wy;split at h
   ·rename_i f args hc;simp only[hc];split at h
    ·rename_i g fi l h1 h2;simp only[h1,h2];exact⟨h.1,h.2.mono λ_ _ hk=>ih hk⟩
    ·rename_i id l h1 h2;simp only[h1,h2];exact h.mono λ_ _ hk=>ih hk
    ·cases h
   ·rename_i hc;simp only[hc];split at h
    ·rename_i v s' hx;simp only[hx];exact ih h
    ·cases h
  have R7:=(qc.1 hg) o (hm o (by simp));unfold YY;unfold mG DQ at h;cases hq:o.guard with
  |none=>simp only[hq]at h |-;exact Xk h
  |some jw=>
   obtain⟨j,want⟩:=jw;simp only[hq]at h R7 |-
   obtain⟨d,LL⟩:=Ar.1 R7;rw[show ops[j]? =ops.toList[j]? from by simp];rw[LL]at h |-
   simp only at h |-
   split at h
   ·rename_i b hb;simp only[hb];exact⟨λe=>Xk (h.1 e),λe=>ih (h.2 e)⟩
   ·rename_i hb;simp only[hb];exact ih h
   ·cases h
theorem MY{id:Nat}{ops:Array Oper}{K:Env->St->Prop}(l:List Oper)(hl:ops.toList=l)(hg:jY l=true)(hd:mw N l=true)(h:oC P (λbf s=>Q .normal bf s) (ins l) bf s):
  gY P N ρ (.region id ops false) Q bf s:=by
 subst hl;exact wB (pp hg (λ_ h=>h) hd h)
theorem Qt{c y:Code}{id:Nat}{ops:Array Oper}(l:List Oper)(hc:c=.seq (.region id ops false) y)(hl:ops.toList=l)(hg:jY l=true)(hd:mw N l=true)
  (h:oC P (gY P N ρ y Q) (ins l) bf s):gY P N ρ c Q bf s:=by
 subst hc;subst hl;exact ri (wB (pp hg (λ_ h=>h) hd h))
def Cs(P:Program)(h:Hint)(op:Op)(bf:Env)(s:St):XR:=bif Nat.beq h.k 3 then(match Cq P op bf s with
 |some (_,⟨(id,.cells sz xs)::r,c⟩)=>some (.ms id 0 h.n,⟨(id,.cells sz h.l)::r,c⟩,[xs=h.l,xs.length=h.n])
 |_=>none)else bif Nat.beq h.k 6 then(match fW op with
  |some (f,args)=>match oper bf f,opers bf args,h.c with
   |some (.fn g fi),some l,some (v,_)=>some (v,s,[T4 P g (l++fi) s v])
   |_,_,_=>none
  |none=>none)else Ed P h op bf s
theorem Bj{h:Hint}{op:Op}{bf:Env}{s s':St}{v:AV}{jg:List Prop}{K:AV->St->Prop}(hx:Cs P h op bf s=some (v,s',jg))(ho:fE jg)(hk:K v s'):MX P op K bf s:=by
 unfold Cs at hx;cases hq:Nat.beq h.k 3 with
 |false=>
  rw[hq]at hx;simp only[dv]at hx;cases h6:Nat.beq h.k 6 with
  |false=>rw[h6]at hx;exact .inl (yF hx ho hk)
  |true=>
   rw[h6]at hx;simp only[cP]at hx;split at hx
   case h_2=>cases hx
   rename_i f args hc;split at hx
   case h_2=>cases hx
   rename_i g fi l v0 s0 h1 h2 h3;cases hx;exact .inr (.inr (.inl ⟨_,⟨f,args,g,fi,l,hc,h1,h2,ho⟩,hk⟩))
 |true=>
  rw[hq]at hx;simp only[cP]at hx;split at hx
  case h_2=>cases hx
  rename_i v0 id sz xs r c hb;cases hx;obtain⟨h1,h2⟩:=ho;simp only[fE]at h2;refine .inr (.inl ⟨_,_,hb,?_⟩);have:v0=.ms id 0 xs.length:=by
   unfold Cq at hb;split at hb
   all_goals grind
  grind
def wC(P:Program):List Ins->List Hint->Env->St->Option (Env×St×List Prop)
 | [],_,bf,s=>some (bf,s,[])
 |i::r,hs,bf,s=>match i.guard with
  |none=>match Cs P (hd hs) i.op bf s with
   |some (v,s',o)=>match wC P r hs.tail (eH i.dst v bf) s' with
    |some (e2,s2,o2)=>some (e2,s2,o++o2)
    |none=>none
   |none=>none
  |some (d,want)=>match bn bf d with
   |some (.bool b)=>bif (hd hs).g then(match Cs P (hd hs) i.op bf s with
     |some (v,s',o)=>match wC P r hs.tail (eH i.dst v bf) s' with
      |some (e2,s2,o2)=>some (e2,s2,(b=want)::(o++o2))
      |none=>none
     |none=>none)else match wC P r hs.tail (eH i.dst (.dS []) bf) s with
      |some (e2,s2,o2)=>some (e2,s2,(b=!want)::o2)
      |none=>none
   |some (.dS [])=>wC P r hs.tail (eH i.dst (.dS []) bf) s
   |_=>none
theorem qz{K:Env->St->Prop}: ∀{l:List Ins}{hs:List Hint}{bf e2:Env}{s s2:St}{jg:List Prop},wC P l hs bf s=some (e2,s2,jg)->fE jg->K e2 s2->oC P K l bf s
 | [],_,bf,e2,s,s2,jg,h,_,hk=>by cases h;exact hk
 |i::r,hs,bf,e2,s,s2,jg,h,ho,hk=>by
  have ne: ∀b w:Bool,b=w-> ¬b=!w:=by decide
  have ne': ∀b w:Bool,(b=!w)-> ¬b=w:=by decide
  unfold wC at h;unfold oC DQ;split at h
  ·rename_i hg;simp only[hg];split at h
   case h_2=>cases h
   rename_i v s' o h1;split at h
   case h_2=>cases h
   rename_i e3 s3 o3 h2;cases h;obtain⟨a1,a2⟩:=eA.1 ho;exact Bj h1 a1 (qz h2 a2 hk)
  ·rename_i d want hg;simp only[hg];split at h
   ·rename_i b hb;simp only[hb];generalize hq:(hd hs).g=q at h;cases q with
    |true=>
     simp only[cP]at h;split at h
     case h_2=>cases h
     rename_i v s' o h1;split at h
     case h_2=>cases h
     rename_i e3 s3 o3 h2;cases h;obtain⟨a0,a1⟩:=eZ.1 ho;obtain⟨a1,a2⟩:=eA.1 a1;exact⟨λ_=>Bj h1 a1 (qz h2 a2 hk),λe=>absurd e (ne _ _ a0)⟩
    |false=>
     simp only[dv]at h;split at h
     case h_2=>cases h
     rename_i e3 s3 o3 h2;cases h;obtain⟨a0,a1⟩:=eZ.1 ho;exact⟨λe=>absurd e (ne' _ _ a0),λ_=>qz h2 a1 hk⟩
   ·rename_i hb;simp only[hb];exact qz h ho hk
   ·cases h
def nS:AV->Prop
 |.sl _ l=>l=[]
 |.ms _ _ n=>n=0
 |_=>False
def qA(P:Program)(op:Op)(bf:Env):Option AV:=match op with
 |.binOp .eql t x (.const (.slice none 0 0)) _=>match dy P t,oper bf x with
  |some _,some (.sl b l)=>some (.sl b l)
  |some _,some (.ms i a n)=>some (.ms i a n)
  |_,_=>none
 |_=>none
theorem Qu{o:Oper}{x:AV}(hn:wj G N ρ bf s a w)(h:qA P o.op bf=some x): ∃b:Bool,(b=true->nS x)/\(execOp a.eval o).run P w=.ok (.value (.bool b)) w:=by
 unfold qA at h;obtain⟨dst,op,type,pos,after,guard⟩:=o;simp only at h;split at h
 case h_2=>cases h
 rename_i t y yt;have key: ∀{bG:Option Addr}{n cap:Nat}{b:Bool},a.eval y=.slice bG n cap->(binOp .eql t (.slice bG n cap) (.slice none 0 0)).run P w=.ok (.bool b) w->
   (execOp a.eval ⟨dst,.binOp .eql t y (.const (.slice none 0 0)) yt,type,pos,after,guard⟩).run P w=.ok (.value (.bool b)) w:=λ{bG n cap b}hq hr=>by
  have hc:a.eval (.const (.slice none 0 0))=.slice none 0 0:=rfl;have hg:=qm (P:=P) (w:=w) (op:=.eql) (t:=t) (x:=y) (y:=.const (.slice none 0 0)) (xv:=.slice bG n cap) (yv:=.slice none 0 0) (.inr ⟨by simp,by simp⟩);simp only[execOp,hq,hc];simp[hg,hr]
 split at h
 ·rename_i e full l he hy;cases h;have hv:=eJ hn.bf hy;generalize hq:a.eval y=v at hv;obtain⟨bG,cap,rfl,_,_,hb,hz⟩:=V.oY hv;refine⟨bG.isNone,λe=>?_,?_⟩
  ·rcases hz with hz|⟨b,off,cq,val,hz,_⟩
   ·exact hz
   grind
  ·have:=Lib.run_eql_slice_nil (P:=P) w t e bG l.length cap 0 0 (fA he)
   grind
 ·rename_i e id st n he hy;cases h;have hv:=eJ hn.bf hy;generalize hq:a.eval y=v at hv;cases hv with
  |ms _ _ _ cap r addr ho eR ga ha=>
   simp_all[Lib.run_eql_slice_nil,fA]
  |gO _ _ cap bG hc=>
   refine⟨bG.isNone,λ_=>rfl,?_⟩;have:=Lib.run_eql_slice_nil (P:=P) w t e bG 0 cap 0 0 (fA he)
   grind
 ·cases h
theorem Qv{c y:Code}{id:Nat}{ops:Array Oper}{o1 o2:Oper}{x v:AV}(hc:c=.seq (.region id ops false) y)(T6:ops.toList=[o1,o2])(h1:gH P o1.op bf s=some (v,s))(hl1:fW o1.op=none)(hd:mY N o1.dst=true/\mY N o2.dst=true)
  (hg:o1.guard=none/\o2.guard=none) (hx:qA P o2.op (eH o1.dst v bf)=some x)
  (h: ∀b:Bool,(b=true->nS x)->gY P N ρ y Q (eH o2.dst (.bool b) (eH o1.dst v bf)) s):gY P N ρ c Q bf s:=by
 subst hc;refine ri λG w a hn=>wpIn_region ?_;have eB:ops.size=2:=by grind [Array.length_toList]
 have e0:ops[0]? =some o1:=by rw[<-Array.getElem?_toList,T6];rfl
 have e1:ops[1]? =some o2:=by rw[<-Array.getElem?_toList,T6];rfl
 rw[eB];show wpOpsIn _ 0 P ops _ [0,1] a w;simp only[wpOpsIn,e0];rw[ez (by simp[Region.wanted,hg.1])];refine vw (K:=λv' s'=>v'=v/\s'=s) ?_ hn _ ?_
 ·unfold Wy
  grind
 rintro v1 G1 x1 s1 w1 Qk WX Zg ⟨rfl,rfl⟩;have hn1:=hn.put hd.1 Qk WX Zg;simp only[e1];rw[ez (by simp[Region.wanted,hg.2])];refine⟨λ_ _=>trivial,?_⟩;have abD: ∀c,o2.op≠ .defer c:=λc e=>by rw[e]at hx;simp[qA]at hx
 have yk:o2.semAt (tt (wY G ρ)).round (a.put o1.dst v1).eval=execOp (a.put o1.dst v1).eval o2:=Oper.semAt_eq _ _ _ (λc=>by
  grind)
 rw[yk];obtain⟨b,hb,fP⟩:=Qu hn1 hx;rw[fP,Oper.uponIn_value];have To:=hn1.put (d:=o2.dst) hd.2 (V.bool b) hn1.iB (.refl _ _ _);exact⟨G1,_,s1,To,Zg,h b hb⟩
def Ct(P:Program)(N:Nat)(c:Code)(bf:Env)(s:St):Option (Code×Option Nat×Env×AV):=match c with
 |.seq (.region _ ops false) y=>match ops.toList with
  | [o1,o2]=>bif o1.guard.isNone&&o2.guard.isNone&&mY N o1.dst&&mY N o2.dst&&eY o1.op&&(fW o1.op).isNone then
    match gH P o1.op bf s with
    |some (v,_)=>match qA P o2.op (eH o1.dst v bf)with
     |some x=>some (y,o2.dst,eH o1.dst v bf,x)
     |none=>none
    |none=>none
   else none
  |_=>none
 |_=>none
theorem T7{c:Code}(y:Code)(d:Option Nat)(E1:Env)(x:AV)(hx:Ct P N c bf s=some (y,d,E1,x))(h: ∀b:Bool,(b=true->nS x)->gY P N ρ y Q (eH d (.bool b) E1) s):gY P N ρ c Q bf s:=by
 unfold Ct at hx;split at hx
 case h_2=>cases hx
 rename_i id ops y';split at hx
 case h_2=>cases hx
 rename_i o1 o2 T6;generalize hq:(o1.guard.isNone&&o2.guard.isNone&&mY N o1.dst&&mY N o2.dst&&eY o1.op&&(fW o1.op).isNone)=q at hx;cases q with
 |false=>cases hx
 |true=>
  simp only[eU,Option.isNone_iff_eq_none]at hq;simp only[cP]at hx
  grind [ng,Qv]
theorem Xl{α:Type}{l:List α}{e:α->AV}{b:Bool}(h:nS (.sl b (l.map e))):l=[]:=by simpa[nS]using h
theorem Xm{α:Type}{l:List α}{i:Nat}(h:nS (.ms i 0 l.length)):l=[]:=by simpa[nS]using h
theorem T8(hs:List Hint){y:Code}{id:Nat}{ops:Array Oper}{c:Code}{E2:Env}{S2:St}{jg:List Prop}(hc:c=.seq (.region id ops false) y)(hg:(jY ops.toList&&mw N ops.toList)=true)
  (hx:wC P (ins ops.toList) hs bf s=some (E2,S2,jg)) (ho:fE jg) (h:gY P N ρ y Q E2 S2):gY P N ρ c Q bf s:=by
 simp only[eU]at hg
 grind [Qt,qz]
end
end Go.Am
end
section
namespace Go.Am
open Go.RowKit
theorem lY{α β:Type}{o:Option α}{f:α->Option β}{r:β}(h:o.bind f=some r): ∃a,o=some a/\f a=some r:=by
 cases o with
 |none=>cases h
 |some a=>grind
theorem aaA{α:Type}{b:Bool}{x y:Option α}{r:α}(h:(bif b then x else y)=some r):(b=true/\x=some r)\/(b=false/\y=some r):=by
 grind
def bZ{α:Type}(p:Prop)[Decidable p](x:Option α):Option α:=if p then x else none
theorem MZ{α:Type}{p:Prop}[Decidable p]{x:Option α}{r:α}(h:bZ p x=some r):p/\x=some r:=by
 unfold bZ at h
 grind
def ix{α:Type}(l:List α)(i:Int):Option α:=if 0<=i then l[i.toNat]? else none
theorem Qw{α:Type}{l:List α}{i:Int}{x:α}(h:ix l i=some x):0<=i/\l[i.toNat]? =some x:=by
 unfold ix at h
 grind
theorem aaB{α:Type}{l:List α}{i:Int}{x:α}(h:ix l i=some x):i<l.length:=by
 obtain⟨h0,h1⟩:=Qw h
 grind
theorem Qx{α:Type}{P:Program}{t:TypeId}{k:Nat}(l:List α)(e:α->AV)(h:cK P t=some k)(he: ∀x,(e x).cells.length=k):fits P t (l.map e):=by
 unfold fits
 grind
theorem dj{α:Type}(l:List α)(e:α->AV)(h: ∀x,(e x).dn=true):eO (l.map e)=true:=by
 grind [ec]
def yH:Code->List Code
 |.seq a b=>.seq a b::(yH a++yH b)
 |.cond o a b=>.cond o a b::(yH a++yH b)
 |.block i a=>.block i a::yH a
 |.loop a=>.loop a::yH a
 |.rangeFunc f p a b=>.rangeFunc f p a b::(yH a++yH b)
 |.scope a=>.scope a::yH a
 |c=>[c]
def T9:List Code->Nat->Code
 | [],_=>.skip
 |c::_,0=>c
 |_::r,n+1=>T9 r n
def ub(h h2:List (Nat×gM)):Bool:=h.all λp=>!qu p.2||(match bn h2 p.1 with
 |some b=>qu b
 |none=>false)
theorem ly{h h2:List (Nat×gM)}(hk:ub h h2=true)(id:Nat)(e:bn h id=some .gq):bn h2 id=some .gq:=by
 have:=qc.1 hk _ (kR e);simp only[qu,pV,Ie]at this
 grind
def IF(ks hs:List Nat)(bf:Env)(s:St):Option (Env×St):=match look bf ks,(hs.foldr (λid acc=>match bn s.heap id,acc with
  |some b,some l=>some ((id,b)::l)
  |_,_=>none) (some []))with
 |some xs,some h=>bif ub s.heap h then some (lu ks xs,⟨h,s.bN⟩)else none
 |_,_=>none
theorem GS{s:St}: ∀{hs:List Nat}{h:List (Nat×gM)},(hs.foldr (λid acc=>match bn s.heap id,acc with
  |some b,some l=>some ((id,b)::l)
  |_,_=>none) (some []))=some h-> ∀id b,bn h id=some b->bn s.heap id=some b
 | [],h,hh,id,b,hg=>by grind [df]
 |i::r,h,hh,id,b,hg=>by
  simp only[YR]at hh;split at hh
  ·rename_i b0 l h1 h2;cases hh;simp only[df,cG]at hg;split at hg
   ·rename_i e;cases hg;rw[<-e];exact h1
   ·exact GS h2 id b hg
  ·cases hh
theorem Eg{P:Program}{N:Nat}{ρ:Option Nat}{Q:Exit->Env->St->Prop}{bf E2:Env}{s S2:St}{c:Code}{ks hs:List Nat}(h:IF ks hs bf s=some (E2,S2))(hk:gY P N ρ c Q E2 S2):gY P N ρ c Q bf s:=by
 unfold IF at h;split at h
 ·rename_i xs hp h1 h2;cases hd:ub s.heap hp with
  |false=>grind
  |true=>
   simp only[hd,cP]at h;cases h;exact My ks (s':=⟨hp,s.bN⟩) h1 (WR.mk (GS h2) (fw _) λid e=>ly hd id e) hk
 ·cases h
section
variable {P:Program} {N:Nat} {ρ:Option Nat} {Q Q':Exit->Env->St->Prop} {bf E2:Env} {s S2:St} {c:Code}
end
def Ua(P:Program)(N:Nat)(c:Code)(hs:List Hint)(ks Cu:List Nat)(bf:Env)(s:St):Option (Code×Env×St×List Prop):=
 match c with
 |.seq (.region _ ops false) y=>bif jY ops.toList&&mw N ops.toList then(match wC P (ins ops.toList) hs bf s with
  |some (e,s',o)=>match IF ks Cu e s' with
   |some (e2,s2)=>some (y,e2,s2,o)
   |none=>none
  |none=>none)else none
 |_=>none
def Ub(P:Program)(N:Nat)(c:Code)(pre:List (List Nat))(br:List Step)(hs:List Hint)(ks Cu:List Nat)(bf:Env)(s:St):Option (Code×Env×St×List Prop):=
 match c with
 |.seq (.region _ ops true) y=>bif D6 P N ops.toList pre br&&(ID (ins ops.toList) br).all sN&&P.follows .mixedOrders then(match Ee P (ID (ins ops.toList) br) hs [] bf s with
  |some (e,s',o)=>match IF ks Cu e s' with
   |some (e2,s2)=>some (y,e2,s2,o)
   |none=>none
  |none=>none)else none
 |_=>none
section
variable {P:Program} {N:Nat} {ρ:Option Nat} {Q Q':Exit->Env->St->Prop} {bf:Env} {s:St} {c:Code}
theorem aaC(y:Code)(hs:List Hint)(ks Cu:List Nat)(E2:Env)(S2:St)(jg:List Prop)(hx:Ua P N c hs ks Cu bf s=some (y,E2,S2,jg))(ho:fE jg)(h:gY P N ρ y Q E2 S2):gY P N ρ c Q bf s:=by
 unfold Ua at hx;split at hx
 case h_2=>cases hx
 rename_i id ops y';generalize hg:(jY ops.toList&&mw N ops.toList)=g at hx;cases g with
 |false=>cases hx
 |true=>
  simp only[cP]at hx
  grind [T8,Eg]
theorem aaD(y:Code)(pre:List (List Nat))(br:List Step)(hs:List Hint)(ks Cu:List Nat)(E2:Env)(S2:St)(jg:List Prop)(hx:Ub P N c pre br hs ks Cu bf s=some (y,E2,S2,jg))(ho:fE jg)(h:gY P N ρ y Q E2 S2):gY P N ρ c Q bf s:=by
 unfold Ub at hx;split at hx
 case h_2=>cases hx
 rename_i id ops y';generalize hg:(D6 P N ops.toList pre br&&(ID (ins ops.toList) br).all sN&&P.follows .mixedOrders)=g at hx;cases g with
 |false=>cases hx
 |true=>
  simp only[cP]at hx;split at hx
  case h_2=>cases hx
  rename_i e s' o h1;split at hx
  case h_2=>cases hx
  rename_i e2 s2 h2;cases hx;simp only[eU]at hg;exact T3 hs rfl (D7 hg.1.1) hg.2 hg.1.2 h1 ho (Eg h2 h)
theorem nl(y:Code)(hs:List Hint)(ks:List Nat)(xs:List AV)(S2:St)(jg:List Prop)(hx:Ua P N c hs ks (S2.heap.map (·.1)) bf s=some (y,lu ks xs,S2,jg))(ho:fE jg)(h:gY P N ρ y Q (lu ks xs) S2):gY P N ρ c Q bf s:=aaC y hs ks _ _ S2 jg hx ho h
theorem Sj(y:Code)(pre:List (List Nat))(br:List Step)(hs:List Hint)(ks:List Nat)(xs:List AV)(S2:St)(jg:List Prop)(hx:Ub P N c pre br hs ks (S2.heap.map (·.1)) bf s=some (y,lu ks xs,S2,jg))(ho:fE jg)(h:gY P N ρ y Q (lu ks xs) S2):gY P N ρ c Q bf s:=aaD y pre br hs ks _ _ S2 jg hx ho h
theorem Sk(t:Nat)(x y:Code)(b:Bool)(hc:c=.cond (.tmp t) x y)(ho:bn bf t=some (.bool b))(ht:b=true->gY P N ρ x Q bf s)(hf:b=false->gY P N ρ y Q bf s):gY P N ρ c Q bf s:=by
 subst hc;exact xZ ho ht hf
theorem IG(x y:Code)(hc:c=.seq x y)(h:gY P N ρ x (J6 (gY P N ρ y Q) Q) bf s):gY P N ρ c Q bf s:=by grind [ri]
theorem M0(hc:c=.skip)(h:Q .normal bf s):gY P N ρ c Q bf s:=by grind [Ma]
theorem M1(hc:c=.ret)(h:Q .ret bf s):gY P N ρ c Q bf s:=by grind [Ij]
end
def pi(L:List (Nat×Nat))(id:Nat):Nat:=match bn L id with
 |some x=>x
 |none=>id
def Eh(bG:Nat)(L:List (Nat×Nat))(S2 s:St):Bool:=
 L.all (λp=>Nat.ble bG p.1)&&S2.heap.all (λp=>Nat.blt p.1 S2.bN&&S2.heap.all λq=>Nat.beq p.1 q.1||!(Nat.beq (pi L p.1) (pi L q.1))||Nat.ble s.bN (pi L p.1))&&Nat.ble bG S2.bN&&(ub s.heap S2.heap&&s.heap.all λp=>!qu p.2||Nat.blt p.1 bG)
inductive LN (ok:Nat->Bool) (π:Nat->Nat) (bG:Nat) (s:St):List (Nat×gM)->Prop
 |z:LN ok π bG s []
 |k {id:Nat} {x x':gM} {r:List (Nat×gM)} (hg:bn s.heap (π id)=some x') (hc:AD ok π x x') (hr:LN ok π bG s r):LN ok π bG s ((id,x)::r)
 |n {id cq:Nat} {r:List (Nat×gM)} (h1:Nat.ble bG id=true) (h2:Nat.ble s.bN (π id)=true) (h3:Nat.blt 0 cq=true) (hr:LN ok π bG s r):LN ok π bG s ((id,.cells cq [])::r)
theorem LN.get{ok:Nat->Bool}{π:Nat->Nat}{bG:Nat}{s:St}: ∀{l:List (Nat×gM)},LN ok π bG s l-> ∀id b,bn l id=some b->
  (∃b',bn s.heap (π id)=some b'/\AD ok π b b')\/(bG<=id/\s.bN<=π id/\ ∃cq,0<cq/\b=.cells cq [])
 |_,.z,id,b,h=>by simp[df,cG]at h
 |_,.k hg hc hr,id,b,h=>by
  simp only[df,cG]at h;split at h
  ·grind
  ·exact hr.get id b h
 |_,.n h1 h2 h3 hr,id,b,h=>by
  simp only[df,cG]at h;split at h
  ·rename_i e;cases h;simp_all
  ·exact hr.get id b h
theorem M3{bG:Nat}{L:List (Nat×Nat)}(h:L.all (λp=>Nat.ble bG p.1)=true){id:Nat}(hl:id<bG):pi L id=id:=by
 unfold pi;cases hg:bn L id with
 |none=>rfl
 |some x=>
  have:=qc.1 h _ (kR hg)
  grind [Nat.ble_eq]
theorem Qy{bG:Nat}{L:List (Nat×Nat)}{S2 s:St}(hb:Eh bG L S2 s=true)(hh:LN (fU bG S2.heap) (pi L) bG s S2.heap):pN bG (pi L) S2 s:=by
 simp only[Eh,eU]at hb;obtain⟨⟨⟨b1,b2⟩,b3⟩,b4⟩:=hb;have g2: ∀{id b},bn S2.heap id=some b->id<S2.bN/\ ∀{fq b'},bn S2.heap fq=some b'->id=fq\/pi L id≠pi L fq\/s.bN<=pi L id:=λ{id b}hg=>by
  have:=qc.1 b2 _ (kR hg);simp only[eU,tv]at this;refine⟨this.1,λ{fq b'}mL=>?_⟩;have:=qc.1 this.2 _ (kR mL);simp only[vm,sr,Gg]at this
  grind [Nat.eq_of_beq_eq_true,Nat.beq_refl]
 exact⟨⟨λid b hg=>hh.get id b hg,λid hl=>M3 b1 hl,λid fq b b' h1 h2 e=>by
   grind,λid b hg=>(g2 hg).1,vd b3⟩,λid e=>⟨by
   have:=qc.1 b4.2 _ (kR e);simpa[qu,tv]using this,ly b4.1 id e⟩⟩
theorem M4{bG:Nat}{L:List (Nat×Nat)}{S2 s:St}{bf:Env}{ks:List Nat}{xs ys:List AV}(hb:Eh bG L S2 s=true)(he:look bf ks=some ys)(hc:qw (fU bG S2.heap) (pi L) xs ys)
  (hh:LN (fU bG S2.heap) (pi L) bG s S2.heap):D9 bG (pi L) (lu ks xs) S2 bf s:=by
 refine⟨Qy hb hh,?_⟩;have key: ∀{ks:List Nat}{xs ys:List AV},look bf ks=some ys->(∀(i:Nat)(x:AV),xs[i]? =some x-> ∃y:AV,ys[i]? =some y/\Co (fU bG S2.heap) (pi L) x y)-> ∀t x,bn (lu ks xs) t=some x-> ∃y,bn bf t=some y/\Co (fU bG S2.heap) (pi L) x y:=by
  intro ks
  induction ks with
  |nil=>intro xs ys _ _ t x hx;simp[lu,df,cG]at hx
  |cons k r ih=>
   intro xs ys he hc t x hx;cases xs with
   |nil=>simp[lu,df,cG]at hx
   |cons x0 xs=>
    simp only[look]at he;split at he
    ·rename_i y0 l h1 h2;cases he;simp only[lu,df,cG]at hx;split at hx
     ·rename_i e;cases hx;subst e;obtain⟨y,hy,hcy⟩:=hc 0 _ rfl
      grind
     ·exact ih h2 (λi x hx=>by simpa using hc (i+1) x (by grind)) t x hx
    ·cases he
 exact key he λi x hx=>hc.get hx
section
variable {P:Program} {N:Nat} {ρ:Option Nat} {Q Q':Exit->Env->St->Prop} {bf:Env} {s:St} {c:Code}
theorem Ei(bG:Nat)(L:List (Nat×Nat))(ks:List Nat)(ys:List AV){xs:List AV}{S2:St}(h:gY P N ρ c Q (lu ks xs) S2)(AE: ∀id,ρ=some id->id<s.bN)(hs:Nat.ble s.bN bG=true)(hb:Eh bG L S2 s=true)(he:look bf ks=some ys)
  (hc:qw (fU bG S2.heap) (pi L) xs ys) (hh:LN (fU bG S2.heap) (pi L) bG s S2.heap):gY P N ρ c Q bf s:=
 MN AE (M4 hb he hc hh) (vd hs) h
theorem IH{f:FuncId}{args:List AV}{K:AV->St->Prop}(N':Nat)(rs:List ResultVar)(c:Code)(E:Env)(hf:((P.funcs[f]?).bind λfn=>fn.body.map λb=>(fn.ntmps,fn.results.toList,b))=some (N',rs,c))(hE:pc args 0=E)
  (hn:Nat.ble args.length N'=true) (hd:nj s.heap=true) (h:gY P N' none c (DP P rs.toArray K) E s):dw P f args s K:=by
 cases hq:P.funcs[f]? with
 |none=>grind
 |some fn=>
  simp only[hq,cN]at hf;cases hb:fn.body with
  |none=>grind
  |some c'=>
   simp only[hb,iJ,Option.some.injEq,Prod.mk.injEq]at hf;obtain⟨h1,h2,h3⟩:=hf;subst h1;subst h2;simp_all[Cb,mT]
theorem M5{K:Env->St->Prop}(h:K bf s):J6 K Q .normal bf s:=h
theorem M6{K:Env->St->Prop}(h:Q .ret bf s):J6 K Q .ret bf s:=h
theorem GU(t:Nat)(x y:Code)(b:Bool)(hb:b=true)(hc:c=.cond (.tmp t) x y)(ho:bn bf t=some (.bool b))(h:gY P N ρ x Q bf s):gY P N ρ c Q bf s:=
 Sk t x y b hc ho (λ_=>h) (λe=>by grind)
theorem GV(t:Nat)(x y:Code)(b:Bool)(hb:b=false)(hc:c=.cond (.tmp t) x y)(ho:bn bf t=some (.bool b))(h:gY P N ρ y Q bf s):gY P N ρ c Q bf s:=
 Sk t x y b hc ho (λe=>by grind) (λ_=>h)
end
def dV(x y:Int):Int:=x.fdiv (2^(min y.toNat 64))
abbrev wr(x:Int):Int:=IntKind.i64.wrap x
def Ej(x y:Int):Int:=if y<x then y else x
def jZ(x y:Int):Int:=if x<y then y else x
abbrev cr:Nat:=18446744073709551616
def SL{α:Type}(e:α->AV)(l:List α):AV:=.sl false (l.map e)
theorem yI{α:Type}{e:α->AV}(h: ∀x,(e x).dn=true)(l:List α):(SL e l).dn=true:=dj l e h
theorem pY(n:Int):(AV.i n).dn=true:=rfl
theorem uc(n:Bool):(AV.bool n).dn=true:=rfl
theorem Uc(n:ByteArray):(AV.str n).dn=true:=rfl
theorem fF{x:AV}{xs:List AV}(h:x.dn=true)(hs:eO xs=true):eO (x::xs)=true:=by simp[eO,h,hs]
theorem vD:eO []=true:=rfl
theorem Ud:fE []:=trivial
theorem cj1{p:Prop}(h:p):fE [p]:=h
theorem Sl{p q:Prop}{r:List Prop}(h:p)(hs:fE (q::r)):fE (p::q::r):=⟨h,hs⟩
section
variable {α:Type} {l m:List α} (e:α->AV)
end
end Go.Am
end
section
namespace Go.Am
open Go.RowKit
section
variable {α:Type} {l:List α} {i:Int} {x:α} (e:α->AV)
end
def Sm(hs:List Nat)(s:St):Option St:=match(hs.foldr (λid acc=>match bn s.heap id,acc with
  |some b,some l=>some ((id,b)::l)
  |_,_=>none) (some []))with
 |some h=>some ⟨h,s.bN⟩
 |none=>none
theorem M7{P:Program}{rs:Array ResultVar}{K:AV->St->Prop}{bf:Env}{s:St}{x:AV}(Cu:List Nat)(s':St)(hx:kO P rs bf s=some x)(hp:Sm Cu s=some s')(hd:nj s'.heap=true)(hk:K x s'):DP P rs K .ret bf s:=by
 unfold Sm at hp;split at hp
 ·rename_i h hh;cases hp;exact⟨x,⟨h,s.bN⟩,hx,⟨λid b hg=>⟨GS hh id b hg,λe=>mT hd id (by rw[hg,e])⟩,fw _⟩,hk⟩
 ·cases hp
section
variable {P:Program} {N:Nat} {ρ:Option Nat} {Q:Exit->Env->St->Prop} {bf:Env} {s:St} {c:Code}
end
def Xn{α:Type}(l:List α)(i:Int)(v:List α):Option (List α):=
 if v.length=1/\0<=i/\i<=l.length/\l.length+v.length<=bc then some (l.take i.toNat++(v++l.drop i.toNat))else none
section
variable {α:Type} {l:List α} {a n:Nat} (e:α->AV)
end
end Go.Am
end
section
namespace Go.Am
open Go.RowKit
theorem GW{P:Program}{f:FuncId}{id n:Nat}{args:List AV}{s:St}{Q:AV->St->Prop}(h: ∀c,n<=c->dw P f (.mc id 0 n c::args) s Q):dw P f (.ms id 0 n::args) s Q:=λG w vs hs hv=>by
 have h0:0<vs.size:=by rw[<-hv.1];simp
 have hx:=hv.2 0 _ _ rfl (RV h0);have turn: ∀c,V G (.mc id 0 n c) vs[0]->VL G (.mc id 0 n c::args) vs:=λc hc=>⟨by simpa using hv.1,λi x y hi hy=>by
  cases i with
  |zero=>grind
  |succ i=>exact hv.2 (i+1) x y (by grind) hy⟩
 generalize vs[0]=v at hx turn;cases hx with
 |ms _ _ _ cap r addr ho eR ga ha=>exact h cap eR G w vs hs (turn cap (.mc _ _ _ _ r addr ho eR ga ha))
 |gO _ _ cap bG hc=>subst hc;exact h 0 (fw _) G w vs hs (turn 0 (.mE _ _ _))
section
variable {α:Type}
end
theorem Cv {P : Program} {f : FuncId} {fn : Func} {tS tR e : TypeId} (hf : P.funcs[f]? = some fn) (Mo : (fn.name == "runtime.NumGoroutine") = false) (hb : fn.body.isNone = true) (hn : Extern.findNext fn = none)
  (he:Extern.find fn=some (Extern.SlicesOverlaps.overlaps #[tS,tS] #[tR])) (ht:dy P tS=some e) {sz:Nat} (hz:cK P e=some sz) (s:St) (b:Bool) (l:List AV) (tQ:fits P e l) (id st n c cq:Nat) (elems:List AV) (hg:bn s.heap id=some (.cells cq elems)):
  T4 P f [.sl b l,.mc id st n c] s (.bool false):=λG w vs hs hv=>by
 obtain⟨v0,v1,rfl⟩: ∃v0 v1,vs= #[v0,v1]:=by
  obtain⟨vs⟩:=vs
  match vs,hv.1 with
  | [v0,v1],_=>grind
 have h0:=hv.2 0 _ _ rfl rfl;have h1:=hv.2 1 _ _ rfl rfl;refine⟨.bool false,?_,.bool false⟩;rw[run_callFunc_extern hf Mo hb hn he];suffices q:(Extern.SlicesOverlaps.overlaps #[tS,tS] #[tR] #[v0,v1]).run P w=.ok (.bool false) w by rw[q];rfl
 obtain⟨bG,cap,rfl,eR,_,_,VV⟩:=V.oY h0;obtain⟨ch,w2,aaE⟩: ∃ch w2,∀(A B:Option Addr)(la ca lb cb:Nat),(Extern.SlicesOverlaps.overlaps #[tS,tS] #[tR] #[.slice A la ca,.slice B lb cb]).run P w=(Sem.run P (α:=Value) (do
    let some t := (#[tS, tS] : Array TypeId)[0]? | stuck "x"
    let .slice elem<-underlying t|stuck w2
    let size<-sizeOf elem
    match A,B with
    |some a,some b=>
     if la=0\/lb=0\/size=0 then pure (Value.bool false)
     else if a.block != b.block&&(<-frozen a)&&(<-frozen b)then unsupported .addressObserved
     else do
      if a.block != b.block then do
       noView a;noView b
       if<-mayBeOne a b then return Value.bool ((<-choose ch)==1)
      pure (Value.bool (a.block==b.block&&a.off<b.off+lb*size&&b.off<a.off+la*size))
    |_,_=>pure (Value.bool false)) w):=⟨_,_,λ_ _ _ _ _ _=>rfl⟩
 have run: ∀(A B:Option Addr)(la ca lb cb:Nat),(Extern.SlicesOverlaps.overlaps #[tS,tS] #[tR] #[.slice A la ca,.slice B lb cb]).run P w=(Sem.run P (α:=Value) (do
   match A,B with
   |some a,some b=>
    if la=0\/lb=0\/sz=0 then pure (Value.bool false)
    else if a.block != b.block&&(<-frozen a)&&(<-frozen b)then unsupported .addressObserved
    else do
     if a.block != b.block then do
      noView a;noView b
      if<-mayBeOne a b then return Value.bool ((<-choose ch)==1)
     pure (Value.bool (a.block==b.block&&a.off<b.off+lb*sz&&b.off<a.off+la*sz))
   |_,_=>pure (Value.bool false)) w):=λA B la ca lb cb=>by
  rw[aaE];simp[run_underlying (fA ht),dU hz]
 have zero: ∀(A B:Option Addr)(la ca lb cb:Nat),(la=0\/lb=0)->(Extern.SlicesOverlaps.overlaps #[tS,tS] #[tR] #[.slice A la ca,.slice B lb cb]).run P w=.ok (.bool false) w:=λA B la ca lb cb h=>by
  rw[run];cases A with
  |none=>rfl
  |some A=>
   cases B with
   |none=>rfl
   |some B=>
    have h':la=0\/lb=0\/sz=0:=by omega
    simp[h']
 cases h1 with
 |mE _ _ abp=>grind
 |mc _ _ _ _ r addr ho abE ga iK=>
  rcases VV with rfl|⟨bk,off,KB,val,rfl,eo,kI,gE,hV⟩
  ·grind
  ·by_cases LM:l.length=0\/n=0
   ·grind
   ·by_cases PF:sz=0
    ·rw[run];simp[PF]
    ·obtain⟨o,e2,e3⟩:=hs.at hg ho;cases e3 with
     |cells _ _ cs ty vr abq hp jR Mh Gn hVE=>
      have fG:l≠[]:=λe=>by grind
      have eB:=B6 (P:=P) tQ eo fG;rw[hz]at eB;cases eB;have him:=gE 0 (Nat.mul_pos (by omega) (by omega));have yJ:=hs.ig _ _ _ him;have hbk:bk≠r.block:=λe=>by
       rw[e,hs.clear _ _ _ _ hg ho]at him;cases him
      have PJ: ∃tA kA,w.shape? bk=some (tA,kA+1):=by
       unfold World.cell? at yJ;simp only at yJ;split at yJ
       ·rename_i cc ta fr hh;rw[fN (by simp)]at yJ;have kc:0<cc.size:=Nat.lt_of_le_of_lt (Ds _) (VG.1 yJ).1;exact⟨ta,cc.size-1,by rw[Nat.sub_add_cancel kc];simp[World.shape?,hh]⟩
       grind
      obtain⟨tA,kA,PJ⟩:=PJ;have hsb:w.shape? r.block=some (ty,cs.size):=by simp[World.shape?,e2]
      have Zh: ∀o,w.frozen? ⟨r.block,o,none⟩=false:=λo=>by simp[World.frozen?,e2]
      have hkB:cs.size≠0:=by
       rw[vr];have:0<(st+c)*r.cq:=Nat.mul_pos (by omega) (by omega);omega
      generalize cs.size=kB at hsb hkB;cases kB with
      |zero=>grind
      |succ kB=>
       rw[run];have aaF: ¬(l.length=0\/n=0\/sz=0):=by omega
       have hnb:(bk != r.block)=true:=by grind
       have aaG:(bk==r.block)=false:=by grind
       cases hfa:w.frozen? ⟨bk,off,none⟩<;>cases hfe:w.frozen? {block:=bk,off:=kA+1}<;>
        simp[aaF,hnb,aaG,frozen,noView,viewAt,mayBeOne,stringish,shape,Sem.run,PJ,hsb,Zh,hfa,hfe]
end Go.Am
end
section
namespace Go.Am
open Go.RowKit
theorem kz{P:Program}{b:Frame}{a:Act}{k:List Item}{cs:List Frame}{w:World}{c:Code}:step P (lone (b.atR a (.code (.scope c)::k)) cs w)=.next (lone (b.atR a (.code c::.inScope c::k)) cs w):=
 step_lone_go (by rfl)
theorem AF{P:Program}{b:Frame}{a:Act}{k:List Item}{cs:List Frame}{w:World}{c:Code}:step P (lone (b.atR a (.inScope c::k)) cs w)=.next (lone (b.atR a k) cs w):=
 step_lone_go (by rfl)
theorem GX{P:Program}{F:Fence}{n:Nat}{Q:Exit->Act->World->Prop}{a:Act}{w:World}{c:Code}(h:c.wpIn F n P Q a w)(hng: ∀l a w,¬Q (.goto l) a w):(Code.scope c).wpIn F n P Q a w:=by
 intro b k cs J8 hb hr;have h0:(lone (b.atR a (.code (.scope c)::k)) cs w).fenced P F:=fenced_calm hb hr rfl;obtain⟨e,w6,w7,hq,sG⟩:=h b (.inScope c::k) cs J8 hb hr;cases e with
 |normal=>exact⟨.normal,w6,w7,hq,.head h0 kz (StepsIn.trans sG (.one (fenced_calm hb hr rfl) AF))⟩
 |exit id=>
  have hx:exitTo id (.inScope c::k)=exitTo id k:=by simp[exitTo]
  exact⟨.exit id,w6,w7,hq,λk' hk=>.head h0 kz (sG.1 k' (by grind)),
   λQz hk=>let⟨aaH,h1,h2⟩:=sG.2 Qz (by grind);⟨aaH,h1,.head h0 kz h2⟩⟩
 |goto l=>grind
 |ret=>exact⟨_,w6,w7,hq,.of_steps (.one h0 kz) sG⟩
 |panic ch=>exact⟨_,w6,w7,hq,.of_steps (.one h0 kz) sG⟩
 |outgrown=>exact⟨_,w6,w7,hq,.of_steps (.one h0 kz) sG⟩
theorem KG{P:Program}{N:Nat}{ρ:Option Nat}{Q:Exit->Env->St->Prop}{bf:Env}{s:St}{c:Code}(h:gY P N ρ c Q bf s)(hng: ∀l bf s,¬Q (.goto l) bf s):gY P N ρ (.scope c) Q bf s:=λG w a hn=>
 GX (h G w a hn) λl a' w' ⟨_,env',s',_,_,hq⟩=>hng l env' s' hq
end Go.Am
end
