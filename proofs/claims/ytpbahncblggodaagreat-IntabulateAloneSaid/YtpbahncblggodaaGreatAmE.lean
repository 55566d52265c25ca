/-
  The logic AM, E: rules of which generated walks are made.
  Own work. No Go text.
-/
import Derived.Test.YtpbahncblggodaaGreatAm26
import Derived.WalkSpells
import Derived.KernelRfl
import Derived.Laws.Externs
set_option linter.all false
section
namespace Go.Am
open Go.RowKit
def bOwn(P:Program)(op:Op)(env:Env)(s:St):Option (AV×St):=match op with
 |.buildSlice t len parts=>match aParts env parts.toList with
  |some l=>match aBuildSlice P t len l,elemT P t with
   |some _,some e=>match sizeT P e with
    |some sz=>some (.ms s.cnt 0 l.length,⟨(s.cnt,.cells sz (l.map (·.2)))::s.heap,s.cnt+1⟩)
    |none=>none
   |_,_=>none
  |none=>none
 |_=>none
section
variable {P:Program} {G:Ghost} {s s':St} {w:World} {env:Env} {a:Act}
theorem buildOwn_did(hs:Sim G s w)(he:VEnv G env a.tmps){t len:Nat}{parts:Array (Nat×Operand)}{l:List (Nat×AV)}{x:AV}{e0 sz0:Nat}(hl:aParts env parts.toList=some l)(h:aBuildSlice P t len l=some x)(he0:elemT P t=some e0)(hs0:sizeT P e0=some sz0):
  Did P G s w (Instr.buildSlice t len (parts.map λ(i,x)=>(i,a.eval x))) (.ms s.cnt 0 l.length) ⟨(s.cnt,.cells sz0 (l.map (·.2)))::s.heap,s.cnt+1⟩:=by
 have hp:=aParts_V he hl
 unfold aBuildSlice at h
 split at h
 case h_2=>cases h
 rename_i e hu
 split at h
 case h_2=>cases h
 rename_i sz z hsz hz
 split at h
 case isFalse=>cases h
 rename_i hc
 obtain⟨rfl,h2,h3,h4,h5,h6⟩:=hc
 cases h
 obtain⟨zv,hzr,hzV⟩:=run_zeroT hz w G
 let zc:Array Value:=if l.length*sz=0 then #[]else zv.cells
 let c0:Array Value:=(Array.range (l.length*sz)).map (zc[· %zc.size]!)
 have hc0:VL G (List.replicate (l.length*sz) AV.any) c0:=⟨by simp[c0],λi x y hx _=>by
  rw[List.getElem?_replicate]at hx
  split at hx
  ·cases hx;exact .any _
  ·cases hx⟩
 have hfl:=fill_slice (sz:=sz) (st:=0) (cells:=List.replicate (l.length*sz) AV.any) h2 h3 (by simp)
 simp only[Nat.zero_mul,List.take_zero,List.nil_append]at hfl
 obtain⟨ov,f1,f2⟩:=fill_VL (place':=λi=>some (i*sz,sz)) (λi q hq=>hq) hc0 hp hfl
 have hall: ∀y∈l.map (·.2),y.cells.length=sz:=λy hy=>by
  obtain⟨p,hp,rfl⟩:=List.mem_map.1 hy
  exact(h3 p hp).1
 have hlen:ov.size=l.length*sz:=by rw[<-f2.1,flat_length hall];simp
 rw[hu]at he0
 have he1:=Option.some.inj he0
 subst he1
 rw[hsz]at hs0
 have hs1:=Option.some.inj hs0
 subst hs1
 have hrun:(Instr.buildSlice t l.length (parts.map λ(i,x)=>(i,a.eval x))).run P w=.ok (.slice (some ⟨w.heap.size,0,none⟩) l.length l.length) (w.alloc (.cells ov e)):=by
  have h4': ¬(2^24<l.length*sz):=by omega
  have h4'': ¬(16777216<l.length*sz):=by omega
  simp only[Instr.buildSlice,Sem.run_bind,run_underlying (elemT_u hu),run_sizeT hsz,Result.andThen_ok,gt_iff_lt,if_neg h4',Array.toList_map]
  have hf1:Instr.fill (λi=>some (i*sz,sz)) c0 (parts.toList.map λp=>(p.1,a.eval p.2))=some ov:=f1
  by_cases hN:l.length*sz=0
  ·rw[if_pos hN]
   simp only[c0,zc,if_pos hN]at hf1
   simp only[pure_bind,hf1]
   simp[newRow]
  ·rw[if_neg hN]
   simp only[c0,zc,if_neg hN]at hf1
   simp only[Sem.run_bind,hzr,Result.andThen_ok,Sem.run_pure,hf1]
   simp[newRow]
 have hmem: ∀k y,(flat (l.map (·.2)))[k]? =some y-> ∃v,ov[k]? =some v/\V G y v:=λk y hk=>f2.get hk
 obtain⟨q1,q2⟩:=hs.put (o:=.cells ov e) (blk:=.cells sz (l.map (·.2))) (r:=⟨w.heap.size,0,sz,ov.size⟩) rfl
  (.cells _ _ _ _ rfl rfl h5 hall (λy hy=>by
   rw[flat,List.mem_flatMap]at hy
   obtain⟨q,hq,hy⟩:=hy
   obtain⟨p,hp,rfl⟩:=List.mem_map.1 hq
   exact scal_of_all (h3 p hp).2 y hy) (by rw[hlen];simp) λk y hk=>by
   obtain⟨v,e1,e2⟩:=hmem k y hk
   exact⟨v,by simpa using e1,e2.mono (.put (hs.fresh _ (Nat.le_refl _)))⟩)
 refine⟨_,_,_,hrun,?_,q1,q2⟩
 exact .ms s.cnt 0 _ _ ⟨w.heap.size,0,sz,ov.size⟩ 0 (by simp[Ghost.put]) (Nat.le_refl _) (by rw[hlen];simp) (λ_=>by simp)
theorem bOwn_did(hs:Sim G s w)(he:VEnv G env a.tmps)(o:Oper){x:AV}(h:bOwn P o.op env s=some (x,s')):DidN P G s w (execOp a.eval o) x s':=by
 unfold bOwn at h
 obtain⟨dst,op,type,pos,after,guard⟩:=o
 simp only at h
 split at h
 case h_2=>cases h
 rename_i t len parts
 split at h
 case h_2=>cases h
 rename_i l hl
 split at h
 case h_2=>cases h
 rename_i y e hb he0
 split at h
 case h_2=>cases h
 rename_i sz hsz
 cases h
 exact(buildOwn_did hs he hl hb he0 hsz).next
theorem bOwn_call{o:Oper}{r:AV×St}(h:bOwn P o.op env s=some r): ∃t len parts,o.op=.buildSlice t len parts:=by
 unfold bOwn at h
 split at h
 ·rename_i hq;exact⟨_,_,_,hq⟩
 ·cases h
end
section
variable {P:Program} {N:Nat} {ρ:Option Nat} {Q:Exit->Env->St->Prop} {env:Env} {s:St} {a:Act} {G:Ghost} {w:World}
def AExt(P:Program)(g:FuncId)(args:List AV)(s:St)(v:AV):Prop:= ∀G w vs,Sim G s w->VL G args vs-> ∃val,(callFunc g vs).run P w=.ok (.value val) w/\V G v val
def xExt(P:Program)(op:Op)(env:Env)(s:St)(v:AV):Prop:= ∃f args g caps l,callOf op=some (f,args)/\oper env f=some (.fn g caps)/\opers env args=some l/\AExt P g (l++caps) s v
def owpO(P:Program)(o:Oper)(K:AV->St->Prop)(env:Env)(s:St):Prop:=owp P o K env s\/(∃v s',bOwn P o.op env s=some (v,s')/\K v s')\/ ∃v,xExt P o.op env s v/\K v s
theorem owpO_sound{o:Oper}{K:AV->St->Prop}{next:Act->World->Prop}{R:Exit->Act->World->Prop}(h:owpO P o K env s)(hn:Now G N ρ env s a w)(ro:Option Nat)
  (hK: ∀v G' x s' w',V G' x v->Sim G' s' w'->Ext G s w G' s' w'->K x s'->next (a.put o.dst v) w'):o.wpIn (fen ro) 0 P a w next R:=by
 rcases h with h|⟨x,s',hx,hk⟩|⟨x,⟨f,args,g,caps,l,hc,hf,hl,hx⟩,hk⟩
 ·exact owp_sound h hn ro hK
 case inr.inr=>
  refine⟨λ_ _=>trivial,?_⟩
  obtain⟨arr,ts,hop,rfl⟩:=callOf_eq hc
  have hsem:o.semAt (fen ro).round a.eval=execOp a.eval o:=Oper.semAt_eq _ _ _ (λc=>by rw[hop];simp)
  rw[hsem]
  have hfv:=oper_V hn.env hf
  have hlv:=opers_VL hn.env hl
  generalize hq:a.eval f=fv at hfv
  cases hfv with
  |fn _ _ vs h1 h2=>
   obtain⟨val,e1,e2⟩:=hx G w _ hn.sim (hlv.append ⟨h1,h2⟩)
   have hrun:(execOp a.eval o).run P w=.ok (.value val) w:=by
    simp[execOp,hop,resolve,Deferred.ofValue,hq,invoke,e1]
   rw[hrun,Oper.uponIn_value]
   exact hK val G x s w e2 hn.sim (.refl _ _ _) hk
 ·refine⟨λ_ _=>trivial,?_⟩
  obtain⟨t,len,parts,hop⟩:=bOwn_call hx
  have hsem:o.semAt (fen ro).round a.eval=execOp a.eval o:=Oper.semAt_eq _ _ _ (λc=>by rw[hop];simp)
  rw[hsem]
  obtain⟨nx,v,G',w',e1,e2,e3,e4,e5⟩:=bOwn_did hn.sim hn.env o hx
  rw[e1]
  rcases e2 with rfl|⟨rfl,rfl⟩
  ·rw[Oper.uponIn_value];exact hK v G' x s' w' e3 e4 e5 hk
  ·rw[Oper.uponIn_skip];exact hK undef G' x s' w' e3 e4 e5 hk
def rwpO(P:Program)(N:Nat)(ops:Array Oper)(K:Env->St->Prop):List Oper->Env->St->Prop
 | [],env,s=>K env s
 |o::r,env,s=>okDst N o.dst=true/\gwp ops o env (owpO P o (λv s'=>rwpO P N ops K r (eput o.dst v env) s') env s) (rwpO P N ops K r (eput o.dst (.tup []) env) s)
theorem rwpO_sound{ops:Array Oper}{G0:Ghost}{s0:St}{w0:World}(h0:Sim G0 s0 w0)(ro:Option Nat): ∀(l:List Oper)(k:Nat)(env:Env)(s:St)(G:Ghost)(a:Act)(w:World),ops.toList.drop k=l->
  Now G N ρ env s a w->Ext G0 s0 w0 G s w->rwpO P N ops (λenv s=>Q .normal env s) l env s->wpOpsIn (fen ro) 0 P ops (After G0 N ρ s0 w0 Q) (List.range' k l.length) a w
 | [],k,env,s,G,a,w,_,hn,hx,h=>⟨G,env,s,hn,hx,h⟩
 |o::r,k,env,s,G,a,w,hl,hn,hx,h=>by
  have ho:ops[k]? =some o:=by
   have:=congrArg (λl:List Oper=>l[0]?) hl
   simpa[List.getElem?_drop]using this
  have hr:ops.toList.drop (k+1)=r:=by rw[<-List.drop_drop,hl];rfl
  obtain⟨hd,h⟩:=h
  rw[List.length_cons,List.range'_succ]
  simp only[wpOpsIn,ho]
  rcases gwp_sound h hn.env with⟨hw,h⟩|⟨hw,h⟩
  ·rw[if_pos hw]
   exact owpO_sound h hn ro λv G' x s' w' hv hs he hk=>rwpO_sound h0 ro r (k+1) _ _ G' _ w' hr (hn.put hd hv hs he) (hx.trans h0 he) hk
  ·rw[if_neg (by simp[hw])]
   exact⟨λ_ _=>trivial,rwpO_sound h0 ro r (k+1) _ _ G _ w hr (hn.put hd (.tup [] #[] rfl (by simp)) hn.sim (.refl _ _ _)) hx h⟩
theorem awp_regionO{id:Nat}{ops:Array Oper}(h:rwpO P N ops (λenv s=>Q .normal env s) ops.toList env s):AWp P N ρ (.region id ops false) Q env s:=λG w a hn=>by
 refine wpIn_region ?_
 rw[List.range_eq_range']
 exact rwpO_sound hn.sim _ ops.toList 0 env s G a w rfl hn (.refl _ _ _) h
def owsO(P:Program)(op:Op)(K:AV->St->Prop)(env:Env)(s:St):Prop:=ows P op K env s\/(∃v s',bOwn P op env s=some (v,s')/\K v s')\/ ∃v,xExt P op env s v/\K v s
def rwsO(P:Program)(K:Env->St->Prop):List Ins->Env->St->Prop
 | [],env,s=>K env s
 |i::r,env,s=>gws i.guard env (owsO P i.op (λv s'=>rwsO P K r (eput i.dst v env) s') env s) (rwsO P K r (eput i.dst (.tup []) env) s)
theorem rwpO_of_rwsO{ops:Array Oper}{K:Env->St->Prop}(hg:guardsOk ops.toList=true): ∀{l:List Oper}{env:Env}{s:St},(∀o∈l,o∈ops.toList)->dstsOk N l=true->
  rwsO P K (l.map (insOf ops.toList)) env s->rwpO P N ops K l env s
 | [],_,_,_,_,h=>h
 |o::r,env,s,hm,hd,h=>by
  simp only[dstsOk,List.all_cons,Bool.and_eq_true]at hd
  have ih: ∀{env:Env}{s:St},rwsO P K (r.map (insOf ops.toList)) env s->rwpO P N ops K r env s:=rwpO_of_rwsO hg (λo ho=>hm o (by simp[ho])) hd.2
  refine⟨hd.1,?_⟩
  simp only[List.map_cons,rwsO]at h
  have howp: ∀{env:Env}{s:St},owsO P o.op (λv s'=>rwsO P K (r.map (insOf ops.toList)) (eput o.dst v env) s') env s->owpO P o (λv s'=>rwpO P N ops K r (eput o.dst v env) s') env s:=by
   intro env s h
   rcases h with h|⟨v,s',hx,hk⟩|⟨v,hx,hk⟩
   case inr.inl=>exact .inr (.inl ⟨v,s',hx,ih hk⟩)
   case inr.inr=>exact .inr (.inr ⟨v,hx,ih hk⟩)
   refine .inl ?_
   unfold ows at h
   unfold owp
   split at h
   ·rename_i f args hc
    simp only[hc]
    split at h
    ·rename_i g caps l h1 h2
     simp only[h1,h2]
     exact⟨h.1,h.2.mono λ_ _ hk=>ih hk⟩
    ·rename_i id l h1 h2
     simp only[h1,h2]
     exact h.mono λ_ _ hk=>ih hk
    ·cases h
   ·rename_i hc
    simp only[hc]
    split at h
    ·rename_i v s' hx
     simp only[hx]
     exact ih h
    ·cases h
  have hgo:=(List.all_eq_true.1 hg) o (hm o (by simp))
  unfold gwp
  unfold insOf gws at h
  cases hq:o.guard with
  |none=>simp only[hq]at h ⊢;exact howp h
  |some jw=>
   obtain⟨j,want⟩:=jw
   simp only[hq]at h hgo ⊢
   obtain⟨d,hd'⟩:=Option.isSome_iff_exists.1 hgo
   rw[show ops[j]? =ops.toList[j]? from by simp]
   rw[hd']at h ⊢
   simp only at h ⊢
   split at h
   ·rename_i b hb
    simp only[hb]
    exact⟨λe=>howp (h.1 e),λe=>ih (h.2 e)⟩
   ·rename_i hb
    simp only[hb]
    exact ih h
   ·cases h
theorem awp_regO{id:Nat}{ops:Array Oper}{K:Env->St->Prop}(l:List Oper)(hl:ops.toList=l)(hg:guardsOk l=true)(hd:dstsOk N l=true)(h:rwsO P (λenv s=>Q .normal env s) (ins l) env s):
  AWp P N ρ (.region id ops false) Q env s:=by
 subst hl
 exact awp_regionO (rwpO_of_rwsO hg (λ_ h=>h) hd h)
def nilish:AV->Prop
 |.sl _ l=>l=[]
 |.ms _ _ n=>n=0
 |_=>False
def isNilCmp(P:Program)(op:Op)(env:Env):Option AV:=match op with
 |.binOp .eql t x (.const (.slice none 0 0)) _=>match elemT P t,oper env x with
  |some _,some (.sl b l)=>some (.sl b l)
  |some _,some (.ms i a n)=>some (.ms i a n)
  |_,_=>none
 |_=>none
theorem nil_did{o:Oper}{x:AV}(hn:Now G N ρ env s a w)(h:isNilCmp P o.op env=some x): ∃b:Bool,(b=true->nilish x)/\(execOp a.eval o).run P w=.ok (.value (.bool b)) w:=by
 unfold isNilCmp at h
 obtain⟨dst,op,type,pos,after,guard⟩:=o
 simp only at h
 split at h
 case h_2=>cases h
 rename_i t y yt
 have key: ∀{base:Option Addr}{n cap:Nat}{b:Bool},a.eval y=.slice base n cap->(binOp .eql t (.slice base n cap) (.slice none 0 0)).run P w=.ok (.bool b) w->
   (execOp a.eval ⟨dst,.binOp .eql t y (.const (.slice none 0 0)) yt,type,pos,after,guard⟩).run P w=.ok (.value (.bool b)) w:=λ{base n cap b}hq hr=>by
  have hc:a.eval (.const (.slice none 0 0))=.slice none 0 0:=rfl
  have hg:=run_eqGuard (P:=P) (w:=w) (op:=.eql) (t:=t) (x:=y) (y:=.const (.slice none 0 0)) (xv:=.slice base n cap) (yv:=.slice none 0 0) (.inr ⟨by simp,by simp⟩)
  simp only[execOp,hq,hc]
  simp[hg,hr]
 split at h
 ·rename_i e full l he hy
  cases h
  have hv:=oper_V hn.env hy
  generalize hq:a.eval y=v at hv
  obtain⟨base,cap,rfl,_,_,hb,hz⟩:=V.sl_inv hv
  refine⟨base.isNone,λe=>?_,?_⟩
  ·rcases hz with hz|⟨b,off,esz,val,hz,_⟩
   ·exact hz
   ·subst hz;cases e
  ·have:=Lib.run_eql_slice_nil (P:=P) w t e base l.length cap 0 0 (elemT_u he)
   exact key hq this
 ·rename_i e id st n he hy
  cases h
  have hv:=oper_V hn.env hy
  generalize hq:a.eval y=v at hv
  cases hv with
  |ms _ _ _ cap r addr ho hle hin ha=>
   refine⟨false,λe=>(by cases e),?_⟩
   have:=Lib.run_eql_slice_nil (P:=P) w t e (some ⟨r.block,addr,none⟩) n cap 0 0 (elemT_u he)
   exact key hq this
  |msnil _ _ cap base hc=>
   refine⟨base.isNone,λ_=>rfl,?_⟩
   have:=Lib.run_eql_slice_nil (P:=P) w t e base 0 cap 0 0 (elemT_u he)
   exact key hq this
 ·cases h
theorem run_nil{c y:Code}{id:Nat}{ops:Array Oper}{o1 o2:Oper}{x v:AV}(hc:c=.seq (.region id ops false) y)(hops:ops.toList=[o1,o2])(h1:aop P o1.op env s=some (v,s))(hl1:callOf o1.op=none)(hd:okDst N o1.dst=true/\okDst N o2.dst=true)
  (hg:o1.guard=none/\o2.guard=none) (hx:isNilCmp P o2.op (eput o1.dst v env)=some x)
  (h: ∀b:Bool,(b=true->nilish x)->AWp P N ρ y Q (eput o2.dst (.bool b) (eput o1.dst v env)) s):AWp P N ρ c Q env s:=by
 subst hc
 refine awp_seq λG w a hn=>wpIn_region ?_
 have hsz:ops.size=2:=by rw[<-Array.length_toList,hops];rfl
 have e0:ops[0]? =some o1:=by rw[<-Array.getElem?_toList,hops];rfl
 have e1:ops[1]? =some o2:=by rw[<-Array.getElem?_toList,hops];rfl
 rw[hsz]
 show wpOpsIn _ 0 P ops _ [0,1] a w
 simp only[wpOpsIn,e0]
 rw[if_pos (by simp[Region.wanted,hg.1])]
 refine owp_sound (K:=λv' s'=>v'=v/\s'=s) ?_ hn _ ?_
 ·unfold owp
  simp only[hl1,h1]
  exact⟨trivial,trivial⟩
 rintro v1 G1 x1 s1 w1 hv1 hs1 hx1 ⟨rfl,rfl⟩
 have hn1:=hn.put hd.1 hv1 hs1 hx1
 simp only[e1]
 rw[if_pos (by simp[Region.wanted,hg.2])]
 refine⟨λ_ _=>trivial,?_⟩
 have hop2: ∀c,o2.op≠ .defer c:=λc e=>by rw[e]at hx;simp[isNilCmp]at hx
 have hsem:o2.semAt (fen (conc G ρ)).round (a.put o1.dst v1).eval=execOp (a.put o1.dst v1).eval o2:=Oper.semAt_eq _ _ _ (λc=>by
  intro e;exact hop2 c e)
 rw[hsem]
 obtain⟨b,hb,hrun⟩:=nil_did hn1 hx
 rw[hrun,Oper.uponIn_value]
 have hn2:=hn1.put (d:=o2.dst) hd.2 (V.bool b) hn1.sim (.refl _ _ _)
 exact⟨G1,_,s1,hn2,hx1,h b hb⟩
def nilRun(P:Program)(N:Nat)(c:Code)(env:Env)(s:St):Option (Code×Option Nat×Env×AV):=match c with
 |.seq (.region _ ops false) y=>match ops.toList with
  | [o1,o2]=>bif o1.guard.isNone&&o2.guard.isNone&&okDst N o1.dst&&okDst N o2.dst&&isLight o1.op&&(callOf o1.op).isNone then
    match aop P o1.op env s with
    |some (v,_)=>match isNilCmp P o2.op (eput o1.dst v env)with
     |some x=>some (y,o2.dst,eput o1.dst v env,x)
     |none=>none
    |none=>none
   else none
  |_=>none
 |_=>none
theorem run_nl{c:Code}(y:Code)(d:Option Nat)(E1:Env)(x:AV)(hx:nilRun P N c env s=some (y,d,E1,x))(h: ∀b:Bool,(b=true->nilish x)->AWp P N ρ y Q (eput d (.bool b) E1) s):AWp P N ρ c Q env s:=by
 unfold nilRun at hx
 split at hx
 case h_2=>cases hx
 rename_i id ops y'
 split at hx
 case h_2=>cases hx
 rename_i o1 o2 hops
 generalize hq:(o1.guard.isNone&&o2.guard.isNone&&okDst N o1.dst&&okDst N o2.dst&&isLight o1.op&&(callOf o1.op).isNone)=q at hx
 cases q with
 |false=>cases hx
 |true=>
  simp only[Bool.and_eq_true,Option.isNone_iff_eq_none]at hq
  simp only[cond_true]at hx
  split at hx
  case h_2=>cases hx
  rename_i v s1 hv
  split at hx
  case h_2=>cases hx
  rename_i x0 hx0
  cases hx
  have:=light_same hq.1.2 hv
  subst this
  exact run_nil rfl hops hv hq.2 ⟨hq.1.1.1.2,hq.1.1.2⟩ ⟨hq.1.1.1.1.1,hq.1.1.1.1.2⟩ hx0 h
theorem nilSl{α:Type}{l:List α}{e:α->AV}{b:Bool}(h:nilish (.sl b (l.map e))):l=[]:=by simpa[nilish]using h
theorem nilMs{α:Type}{l:List α}{i:Nat}(h:nilish (.ms i 0 l.length)):l=[]:=by simpa[nilish]using h
end
end Go.Am
end
section
namespace Go.Am
open Go.RowKit
theorem bindE{α β:Type}{o:Option α}{f:α->Option β}{r:β}(h:o.bind f=some r): ∃a,o=some a/\f a=some r:=by
 cases o with
 |none=>cases h
 |some a=>exact⟨a,rfl,h⟩
theorem iteE{α:Type}{b:Bool}{x y:Option α}{r:α}(h:(bif b then x else y)=some r):(b=true/\x=some r)\/(b=false/\y=some r):=by
 cases b with
 |true=>exact .inl ⟨rfl,h⟩
 |false=>exact .inr ⟨rfl,h⟩
def need{α:Type}(p:Prop)[Decidable p](x:Option α):Option α:=if p then x else none
theorem needE{α:Type}{p:Prop}[Decidable p]{x:Option α}{r:α}(h:need p x=some r):p/\x=some r:=by
 unfold need at h
 split at h
 ·rename_i hp;exact⟨hp,h⟩
 ·cases h
def ix{α:Type}(l:List α)(i:Int):Option α:=if 0<=i then l[i.toNat]? else none
theorem ixE{α:Type}{l:List α}{i:Int}{x:α}(h:ix l i=some x):0<=i/\l[i.toNat]? =some x:=by
 unfold ix at h
 split at h
 ·rename_i hp;exact⟨hp,h⟩
 ·cases h
theorem ixLt{α:Type}{l:List α}{i:Int}{x:α}(h:ix l i=some x):i<l.length:=by
 obtain⟨h0,h1⟩:=ixE h
 have:=(List.getElem?_eq_some_iff.1 h1).1
 omega
theorem cleanMap{α:Type}(l:List α)(e:α->AV)(h: ∀x,(e x).clean=true):cleanL (l.map e)=true:=by
 rw[cleanL_iff]
 intro y hy
 obtain⟨x,_,rfl⟩:=List.mem_map.1 hy
 exact h x
def subs:Code->List Code
 |.seq a b=>.seq a b::(subs a++subs b)
 |.cond o a b=>.cond o a b::(subs a++subs b)
 |.block i a=>.block i a::subs a
 |.loop a=>.loop a::subs a
 |.rangeFunc f p a b=>.rangeFunc f p a b::(subs a++subs b)
 |.scope a=>.scope a::subs a
 |c=>[c]
def nthC:List Code->Nat->Code
 | [],_=>.skip
 |c::_,0=>c
 |_::r,n+1=>nthC r n
def keepD(h h2:List (Nat×Blk)):Bool:=h.all λp=>!isDfr p.2||(match eget h2 p.1 with
 |some b=>isDfr b
 |none=>false)
theorem keepD_iff{h h2:List (Nat×Blk)}(hk:keepD h h2=true)(id:Nat)(e:eget h id=some .dfr):eget h2 id=some .dfr:=by
 have:=List.all_eq_true.1 hk _ (eget_mem e)
 simp only[isDfr,Bool.not_true,Bool.false_or]at this
 split at this
 ·rename_i b hb
  cases b with
  |dfr=>exact hb
  |cells _ _=>cases this
  |loop _=>cases this
 ·cases this
theorem pruneH{s:St}: ∀{hs:List Nat}{h:List (Nat×Blk)},(hs.foldr (λid acc=>match eget s.heap id,acc with
  |some b,some l=>some ((id,b)::l)
  |_,_=>none) (some []))=some h-> ∀id b,eget h id=some b->eget s.heap id=some b
 | [],h,hh,id,b,hg=>by cases hh;simp[egetN,egetC]at hg
 |i::r,h,hh,id,b,hg=>by
  simp only[List.foldr_cons]at hh
  split at hh
  ·rename_i b0 l h1 h2
   cases hh
   simp only[egetN,egetC]at hg
   split at hg
   ·rename_i e;cases hg;rw[<-e];exact h1
   ·exact pruneH h2 id b hg
  ·cases hh
section
variable {P:Program} {N:Nat} {ρ:Option Nat} {Q Q':Exit->Env->St->Prop} {env E2:Env} {s S2:St} {c:Code}
end
section
variable {P:Program} {N:Nat} {ρ:Option Nat} {Q Q':Exit->Env->St->Prop} {env:Env} {s:St} {c:Code}
end
def pi(L:List (Nat×Nat))(id:Nat):Nat:=match eget L id with
 |some x=>x
 |none=>id
inductive HCo (ok:Nat->Bool) (π:Nat->Nat) (base:Nat) (s:St):List (Nat×Blk)->Prop
 |z:HCo ok π base s []
 |k {id:Nat} {x x':Blk} {r:List (Nat×Blk)} (hg:eget s.heap (π id)=some x') (hc:CoB ok π x x') (hr:HCo ok π base s r):HCo ok π base s ((id,x)::r)
 |n {id esz:Nat} {r:List (Nat×Blk)} (h1:Nat.ble base id=true) (h2:Nat.ble s.cnt (π id)=true) (h3:Nat.blt 0 esz=true) (hr:HCo ok π base s r):HCo ok π base s ((id,.cells esz [])::r)
theorem HCo.get{ok:Nat->Bool}{π:Nat->Nat}{base:Nat}{s:St}: ∀{l:List (Nat×Blk)},HCo ok π base s l-> ∀id b,eget l id=some b->
  (∃b',eget s.heap (π id)=some b'/\CoB ok π b b')\/(base<=id/\s.cnt<=π id/\ ∃esz,0<esz/\b=.cells esz [])
 |_,.z,id,b,h=>by simp[egetN,egetC]at h
 |_,.k hg hc hr,id,b,h=>by
  simp only[egetN,egetC]at h
  split at h
  ·rename_i e;cases h;subst e;exact .inl ⟨_,hg,hc⟩
  ·exact hr.get id b h
 |_,.n h1 h2 h3 hr,id,b,h=>by
  simp only[egetN,egetC]at h
  split at h
  ·rename_i e;cases h;subst e;exact .inr ⟨Nat.le_of_ble_eq_true h1,Nat.le_of_ble_eq_true h2,_,by simpa[Nat.blt_eq]using h3,rfl⟩
  ·exact hr.get id b h
theorem pi_low{base:Nat}{L:List (Nat×Nat)}(h:L.all (λp=>Nat.ble base p.1)=true){id:Nat}(hl:id<base):pi L id=id:=by
 unfold pi
 cases hg:eget L id with
 |none=>rfl
 |some x=>
  have:=List.all_eq_true.1 h _ (eget_mem hg)
  simp only[Nat.ble_eq]at this
  omega
section
variable {P:Program} {N:Nat} {ρ:Option Nat} {Q Q':Exit->Env->St->Prop} {env:Env} {s:St} {c:Code}
inductive HFz (id:Nat) (elems:List AV) (s:St):List (Nat×Blk)->Prop
 |z:HFz id elems s []
 |k {i:Nat} {x x':Blk} {r:List (Nat×Blk)} (hn:Nat.beq i id=false) (hg:eget s.heap i=some x') (hc:FzB id elems x x') (hr:HFz id elems s r):HFz id elems s ((i,x)::r)
theorem run_f{f:FuncId}{args:List AV}{K:AV->St->Prop}(N':Nat)(rs:List ResultVar)(c:Code)(E:Env)(hf:((P.funcs[f]?).bind λfn=>fn.body.map λb=>(fn.ntmps,fn.results.toList,b))=some (N',rs,c))(hE:argEnv args 0=E)
  (hn:Nat.ble args.length N'=true) (hd:noDfr s.heap=true) (h:AWp P N' none c (FinQ P rs.toArray K) E s):ACalls P f args s K:=by
 cases hq:P.funcs[f]? with
 |none=>simp[hq]at hf
 |some fn=>
  simp only[hq,Option.bind_some]at hf
  cases hb:fn.body with
  |none=>simp[hb]at hf
  |some c'=>
   simp only[hb,Option.map_some,Option.some.injEq,Prod.mk.injEq]at hf
   obtain⟨h1,h2,h3⟩:=hf
   subst h1;subst h2;subst h3;subst hE
   exact acalls_of_wp hq hb (Nat.le_of_ble_eq_true hn) (noDfr_iff hd) (by simpa using h)
end
def shrI(x y:Int):Int:=x.fdiv (2^(min y.toNat 64))
abbrev wr(x:Int):Int:=IntKind.i64.wrap x
def minI(x y:Int):Int:=if y<x then y else x
def maxI(x y:Int):Int:=if x<y then y else x
abbrev FUEL:Nat:=18446744073709551616
def SL{α:Type}(e:α->AV)(l:List α):AV:=.sl false (l.map e)
theorem cl_SL{α:Type}{e:α->AV}(h: ∀x,(e x).clean=true)(l:List α):(SL e l).clean=true:=cleanMap l e h
theorem cl_i(n:Int):(AV.i n).clean=true:=rfl
theorem cl_bool(n:Bool):(AV.bool n).clean=true:=rfl
theorem clK{x:AV}{xs:List AV}(h:x.clean=true)(hs:cleanL xs=true):cleanL (x::xs)=true:=by simp[cleanL,h,hs]
theorem clZ:cleanL []=true:=rfl
section
variable {α:Type} {l m:List α} (e:α->AV)
end
end Go.Am
end
section
namespace Go.Am
open Go.RowKit
inductive HIn (ok:Nat->Bool) (π:Nat->Nat) (s:St):List (Nat×Blk)->Prop
 |z:HIn ok π s []
 |k {id:Nat} {x x':Blk} {r:List (Nat×Blk)} (hg:eget s.heap (π id)=some x') (hc:CoB ok π x x') (hr:HIn ok π s r):HIn ok π s ((id,x)::r)
inductive HOut (ok:Nat->Bool) (σ:Nat->Nat) (fr:List Nat) (H1 s:St):List (Nat×Blk)->Prop
 |z:HOut ok σ fr H1 s []
 |d {id:Nat} {x x':Blk} {r:List (Nat×Blk)} (hm:memB id fr=false) (hg:eget H1.heap (σ id)=some x') (hc:CoB ok σ x x') (hr:HOut ok σ fr H1 s r):HOut ok σ fr H1 s ((id,x)::r)
 |f {id:Nat} {x:Blk} {r:List (Nat×Blk)} (hm:memB id fr=true) (hg:eget s.heap id=some x) (hr:HOut ok σ fr H1 s r):HOut ok σ fr H1 s ((id,x)::r)
section
variable {α:Type} {l:List α} {i:Int} {x:α} (e:α->AV)
end
def keepB(hs:List Nat)(s:St):Option St:=match(hs.foldr (λid acc=>match eget s.heap id,acc with
  |some b,some l=>some ((id,b)::l)
  |_,_=>none) (some []))with
 |some h=>some ⟨h,s.cnt⟩
 |none=>none
theorem fin_p{P:Program}{rs:Array ResultVar}{K:AV->St->Prop}{env:Env}{s:St}{x:AV}(hids:List Nat)(s':St)(hx:aResults P rs env s=some x)(hp:keepB hids s=some s')(hd:noDfr s'.heap=true)(hk:K x s'):FinQ P rs K .ret env s:=by
 unfold keepB at hp
 split at hp
 ·rename_i h hh
  cases hp
  exact⟨x,⟨h,s.cnt⟩,hx,⟨λid b hg=>⟨pruneH hh id b hg,λe=>noDfr_iff hd id (by rw[hg,e])⟩,Nat.le_refl _⟩,hk⟩
 ·cases hp
section
variable {P:Program} {N:Nat} {ρ:Option Nat} {Q:Exit->Env->St->Prop} {env:Env} {s:St} {c:Code}
end
section
variable {α:Type} {l:List α} {a n:Nat} (e:α->AV)
end
end Go.Am
end
section
namespace Go.Am
open Go.RowKit
section
variable {α:Type}
end
end Go.Am
end
section
namespace Go.Am
open Go.RowKit
theorem stepR_scope{P:Program}{b:Frame}{a:Act}{k:List Item}{cs:List Frame}{w:World}{c:Code}:step P (lone (b.atR a (.code (.scope c)::k)) cs w)=.next (lone (b.atR a (.code c::.inScope c::k)) cs w):=
 step_lone_go (by simp[stepG,stepG.exec,Frame.atR])
theorem stepR_inScope{P:Program}{b:Frame}{a:Act}{k:List Item}{cs:List Frame}{w:World}{c:Code}:step P (lone (b.atR a (.inScope c::k)) cs w)=.next (lone (b.atR a k) cs w):=
 step_lone_go (by simp[stepG,stepG.exec,Frame.atR])
theorem wpIn_scope{P:Program}{F:Fence}{n:Nat}{Q:Exit->Act->World->Prop}{a:Act}{w:World}{c:Code}(h:c.wpIn F n P Q a w)(hng: ∀l a w,¬Q (.goto l) a w):(Code.scope c).wpIn F n P Q a w:=by
 intro b k cs hro hb hr
 have h0:(lone (b.atR a (.code (.scope c)::k)) cs w).fenced P F:=fenced_calm hb hr rfl
 obtain⟨e,a₁,w₁,hq,harr⟩:=h b (.inScope c::k) cs hro hb hr
 cases e with
 |normal=>exact⟨.normal,a₁,w₁,hq,.head h0 stepR_scope (StepsIn.trans harr (.one (fenced_calm hb hr rfl) stepR_inScope))⟩
 |exit id=>
  have hx:exitTo id (.inScope c::k)=exitTo id k:=by simp[exitTo]
  exact⟨.exit id,a₁,w₁,hq,λk' hk=>.head h0 stepR_scope (harr.1 k' (by rw[hx];exact hk)),
   λhr' hk=>let⟨k₁,h1,h2⟩:=harr.2 hr' (by rw[hx];exact hk);⟨k₁,h1,.head h0 stepR_scope h2⟩⟩
 |goto l=>exact(hng _ _ _ hq).elim
 |ret=>exact⟨_,a₁,w₁,hq,.of_steps (.one h0 stepR_scope) harr⟩
 |panic ch=>exact⟨_,a₁,w₁,hq,.of_steps (.one h0 stepR_scope) harr⟩
 |outgrown=>exact⟨_,a₁,w₁,hq,.of_steps (.one h0 stepR_scope) harr⟩
theorem awp_scope{P:Program}{N:Nat}{ρ:Option Nat}{Q:Exit->Env->St->Prop}{env:Env}{s:St}{c:Code}(h:AWp P N ρ c Q env s)(hng: ∀l env s,¬Q (.goto l) env s):AWp P N ρ (.scope c) Q env s:=λG w a hn=>
 wpIn_scope (h G w a hn) λl a' w' ⟨_,env',s',_,_,hq⟩=>hng l env' s' hq
end Go.Am
end
