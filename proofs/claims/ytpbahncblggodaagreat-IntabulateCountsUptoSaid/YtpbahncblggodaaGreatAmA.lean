/- The logic AM, A: abstract values and states; operations; moves; the rules; soundness of the first operations. -/
import Derived.RangeFuncLeaves
import Derived.OrdersIn
import Derived.Laws.Cells
import Derived.Laws.CopyRow
import Derived.Laws.World
import Derived.RowKit3
import Derived.Below
import Derived.Laws.Append
set_option linter.all false
section
namespace Go.Am
abbrev cK:=@Option.bind_some
abbrev cS:=@cond_true
abbrev dj:=@cond_false
abbrev dD:=@if_pos
abbrev dH:=@List.getElem?_eq_getElem
abbrev dM:=@if_neg
abbrev dX:=@decide_false
abbrev eF:=@Nat.le_refl
abbrev fi:=@Bool.and_eq_true
abbrev fA:=@congrArg
abbrev fP:=@List.getElem?_eq_some_iff
abbrev gp:=@decide_true
abbrev gy:=@Option.map_some
abbrev gz:=@List.mem_of_getElem?
abbrev jh:=@Nat.eq_of_beq_eq_true
abbrev jJ:=@List.mem_map
abbrev jW:=@List.length_append
abbrev ky:=@Int.lt_irrefl
abbrev lr:=@List.mem_append
abbrev lD:=@List.mem_filter
abbrev mB:=@List.length_map
abbrev mC:=@decide_eq_false
abbrev mU:=@List.mem_cons
abbrev np:=@List.getElem?_append_left
abbrev oG:=@List.length_cons
abbrev oH:=@Int.toNat_natCast
abbrev pG:=@List.getElem?_append_right
abbrev pH:=@List.getElem_of_mem
abbrev pT:=@List.all_eq_true
abbrev pU:=@ne_eq
abbrev p8:=@Bool.not_true
abbrev p9:=@Bool.not_eq_true'
abbrev rN:=@List.nil_append
abbrev rO:=@Nat.blt_eq
abbrev sq:=@List.length_filter_le
abbrev sF:=@List.mem_flatMap
abbrev sG:=@List.take_of_length_le
abbrev tt:=@not_true_eq_false
abbrev tx:=@List.getElem?_map
abbrev tz:=@Bool.or_eq_true
abbrev tA:=@Nat.le_of_ble_eq_true
abbrev uV:=@Nat.add_mul
abbrev u0:=@if_true
abbrev va:=@List.getElem_mem
abbrev vU:=@Nat.le_trans
abbrev vV:=@List.any_eq_true
abbrev wI:=@List.cons_append
abbrev xa:=@List.append_nil
abbrev xb:=@List.map_cons
abbrev xc:=@Array.getD_eq_getD_getElem?
abbrev xK:=@List.mem_of_mem_take
abbrev xL:=@decide_eq_true_eq
abbrev xM:=@decide_eq_true
abbrev Aa:=@Nat.mul_le_mul_right
abbrev Ab:=@Option.getD_some
abbrev Ac:=@Sum.elim_inl
abbrev AK:=@Nat.zero_le
abbrev AL:=@List.take_length
abbrev AM:=@Option.isSome_iff_exists
abbrev AN:=@List.mem_range
abbrev BU:=@Nat.zero_add
abbrev Dk:=@Nat.add_assoc
abbrev Dl:=@Nat.add_zero
abbrev Dm:=@List.map_append
abbrev Dn:=@List.mem_append_left
abbrev Dp:=@Nat.lt_or_ge
abbrev Dq:=@List.filter_append
abbrev Dr:=@List.pairwise_cons
abbrev DB:=@List.length_take
abbrev DC:=@List.append_assoc
abbrev DD:=@List.pairwise_iff_getElem
abbrev Fx:=@Bool.or_eq_false_iff
abbrev Fy:=@List.map_drop
abbrev FA:=@List.mem_append_right
abbrev FB:=@List.pairwise_map
abbrev FC:=@getElem!_pos
abbrev FQ:=@List.flatMap_cons
abbrev FR:=@Array.length_toList
abbrev FU:=@List.getElem?_set_ne
abbrev Hv:=@List.mem_of_mem_drop
abbrev Hw:=@not_false_eq_true
abbrev Hx:=@Bool.false_or
abbrev Hy:=@Option.map_eq_some_iff
abbrev Hz:=@Bool.not_false
abbrev Jd:=@List.map_map
abbrev Jh:=@List.mem_cons_of_mem
abbrev Ji:=@Nat.ble_eq
abbrev Jj:=@decide_eq_false_iff_not
abbrev Jk:=@Nat.lt_trichotomy
abbrev Kx:=@List.eq_nil_of_length_eq_zero
abbrev Ky:=@Array.getElem?_eq_getElem
abbrev Kz:=@List.length_nil
abbrev KA:=@List.any_eq_false
abbrev KB:=@List.getElem?_set_self
abbrev KS:=@List.getElem?_drop
abbrev KT:=@List.map_take
abbrev KU:=@List.length_take_le
abbrev Og:=@Nat.beq_refl
abbrev Oh:=@Nat.min_eq_left
abbrev Oi:=@List.eq_of_mem_replicate
abbrev OL:=@true_and
abbrev Qr:=@Array.getElem?_eq_some_iff
abbrev Qs:=@Nat.sub_self
abbrev Qt:=@List.take_append_drop
abbrev Qu:=@List.map_nil
abbrev Qv:=@List.filter_cons
abbrev Qw:=@Nat.le_of_lt
abbrev Qx:=@and_true
abbrev Qy:=@List.getElem?_mapIdx
abbrev Qz:=@List.filter_sublist
abbrev RF:=@List.mem_singleton
abbrev RH:=@Nat.lt_of_lt_of_le
abbrev RI:=@Nat.mul_comm
abbrev RJ:=@Option.map_none
abbrev RK:=@Nat.add_le_add_left
abbrev RL:=@List.take_zero
abbrev RM:=@List.take_take
abbrev RN:=@Array.eq_empty_of_size_eq_zero
abbrev RO:=@List.length_pos_iff
abbrev RP:=@List.foldl_cons
abbrev Ue:=@Nat.lt_succ_self
abbrev Uf:=@List.getElem?_take
abbrev Ug:=@List.length_drop
abbrev Uh:=@Bool.true_and
abbrev Ui:=@List.length_singleton
abbrev Uj:=@Int.natCast_nonneg
abbrev Uk:=@List.take_left'
abbrev Ul:=@List.ext_getElem?
abbrev UY:=@Nat.zero_mul
abbrev U0:=@List.size_toArray
abbrev U1:=@List.length_replicate
abbrev U2:=@Array.getElem?_setIfInBounds_ne
abbrev U3:=@Nat.ble_eq_true_of_le
abbrev U4:=@List.any_cons
abbrev U5:=@Nat.mul_add
abbrev U6:=@List.flatMap_nil
abbrev U7:=@of_decide_eq_true
abbrev U8:=@Bool.or_false
abbrev U9:=@List.findIdx?_eq_some_iff_getElem
abbrev Va:=@List.pairwise_append
abbrev Xq:=@List.sum_cons
abbrev Xs:=@Nat.div_add_mod
abbrev Xt:=@List.all_cons
abbrev Xu:=@List.getElem?_set
abbrev Xv:=@List.mem_or_eq_of_mem_set
abbrev Xw:=@Array.getElem?_append_left
abbrev Xx:=@List.take_append_of_le_length
abbrev Xy:=@Nat.mul_eq_zero
abbrev Xz:=@List.getElem?_replicate
abbrev XA:=@Array.toList_map
abbrev XB:=@List.length_pos_of_mem
abbrev XC:=@List.drop_zero
abbrev XD:=@Bool.or_assoc
abbrev XE:=@List.range_succ
abbrev XF:=@List.flatMap_append
abbrev XG:=@List.filter_eq_nil_iff
abbrev XH:=@List.findIdx?_eq_none_iff
abbrev XI:=@Nat.add_sub_cancel
abbrev XJ:=@List.exists_cons_of_ne_nil
abbrev XK:=@Bool.false_and
abbrev YS:=@Nat.mul_le_mul_left
abbrev YT:=@Array.getElem!_eq_getD
abbrev YU:=@Array.getElem?_toList
abbrev YV:=@Bool.false_eq_true
abbrev YW:=@Array.getElem?_eq_none
abbrev YX:=@List.range_eq_range'
abbrev YY:=@List.drop_eq_getElem_cons
abbrev YZ:=@Bool.not_eq_false'
abbrev Y0:=@List.flatten_append
abbrev Y1:=@List.filter_cons_of_pos
abbrev Y2:=@List.filter_cons_of_neg
abbrev Y3:=@List.foldl_append
abbrev Y4:=@List.mergeSort_perm
abbrev Y5:=@List.pairwise_mergeSort
abbrev Y6:=@List.take_set_of_le
abbrev Y7:=@List.getElem?_zip_eq_some
abbrev Y8:=@List.all_eq_false
abbrev Y9:=@Int.lt_trichotomy
abbrev Za:=@of_decide_eq_false
abbrev zE9:=@Array.all_eq_true_iff_forall_mem
open Go.RowKit
inductive AV where
 |bool (b:Bool)
 |int (k:IntKind) (n:Int)
 |str (s:ByteArray)
 |iE
 |mV
 |sl (full:Bool) (elems:List AV)
 |ip (cells:List AV)
 |mp (id el off:Nat)
 |ms (id bL len:Nat)
 |mc (id bL len cap:Nat)
 |fn (f:FuncId) (fQ:List AV)
 |kK (id:Nat)
 |agg (cells:List AV)
 |ec (vs:List AV)
 |any
 deriving Inhabited
abbrev AV.i(n:Int):AV:=.int .i64 n
def AV.cells:AV->List AV
 |.agg cs=>cs
 |v=>[v]
def AV.isAgg:AV->Bool
 |.agg _=>true
 |_=>false
def AV.cX:AV->Bool
 |.agg _|.ec _|.any=>false
 |_=>true
def dn(l:List AV):List AV:=l.flatMap AV.cells
structure uW where
 block:Nat
 bR:Nat
 cB:Nat
 size:Nat
structure cg where
 gP:Nat->Nat->Option Value
 own:Nat->Option uW
inductive V (G:cg):AV->Value->Prop
 |any (v:Value):V G .any v
 |bool (b:Bool):V G (.bool b) (.bool b)
 |int (k:IntKind) (n:Int):V G (.int k n) (.int k n)
 |str (s:ByteArray):V G (.str s) (.string s)
 |iE:V G .iE (.pointer none)
 |mV:V G .mV .nilFunc
 |slnil (full:Bool) (bR:Option Addr) (cap:Nat) (hf:full=true->cap=0) (hb:bR=none->cap=0):V G (.sl full []) (.slice bR 0 cap)
 |sl (full:Bool) (elems:List AV) (b off cB cap:Nat) (val:Nat->Value) (jY:elems.length<=cap) (jS:full=true->cap=elems.length)
  (ee: ∀e∈elems,e.cells.length=cB) (jz: ∀x∈dn elems,x.cX=true) (gS: ∀k,k<elems.length*cB->G.gP b (off+k)=some (val k))
  (hV: ∀k x,(dn elems)[k]? =some x->V G x (val k)):V G (.sl full elems) (.slice (some ⟨b,off,none⟩) elems.length cap)
 |ip (cells:List AV) (b off:Nat) (val:Nat->Value) (gS: ∀k,k<cells.length->G.gP b (off+k)=some (val k))
  (hV: ∀k x,cells[k]? =some x->V G x (val k)):V G (.ip cells) (.pointer (some ⟨b,off,none⟩))
 |mp (id el off:Nat) (r:uW) (h:G.own id=some r):V G (.mp id el off) (.pointer (some ⟨r.block,r.bR+el*r.cB+off,none⟩))
 |ms (id bL len cap:Nat) (r:uW) (addr:Nat) (h:G.own id=some r) (eE:len<=cap) (eZ:r.bR+(bL+cap)*r.cB<=r.size)
  (gA:0<cap->addr=r.bR+bL*r.cB):V G (.ms id bL len) (.slice (some ⟨r.block,addr,none⟩) len cap)
 |gC (id bL cap:Nat) (bR:Option Addr) (hc:cap=0):V G (.ms id bL 0) (.slice bR 0 cap)
 |mc (id bL len cap:Nat) (r:uW) (addr:Nat) (h:G.own id=some r) (eE:len<=cap) (eZ:r.bR+(bL+cap)*r.cB<=r.size)
  (gA:0<cap->addr=r.bR+bL*r.cB):V G (.mc id bL len cap) (.slice (some ⟨r.block,addr,none⟩) len cap)
 |mZ (id bL:Nat) (bR:Option Addr):V G (.mc id bL 0 0) (.slice bR 0 0)
 |fn (f:FuncId) (fQ:List AV) (vs:Array Value) (dA:fQ.length=vs.size) (h: ∀(i:Nat)x y,fQ[i]? =some x->vs[i]? =some y->V G x y):
  V G (.fn f fQ) (.func (.func f) #[] vs)
 |kK (id:Nat) (r:uW) (h:G.own id=some r):V G (.kK id) (.func (.yield r.block) #[] #[])
 |agg (cs:List AV) (vs:Array Value) (dA:cs.length=vs.size) (h: ∀(i:Nat)x y,cs[i]? =some x->vs[i]? =some y->V G x y):V G (.agg cs) (.agg vs)
 |ec (cs:List AV) (vs:Array Value) (dA:cs.length=vs.size) (h: ∀(i:Nat)x y,cs[i]? =some x->vs[i]? =some y->V G x y):V G (.ec cs) (.tuple vs)
def VL(G:cg)(cs:List AV)(vs:Array Value):Prop:=cs.length=vs.size/\ ∀(i:Nat)x y,cs[i]? =some x->vs[i]? =some y->V G x y
structure sr (G G':cg):Prop where
 gP: ∀b o v,G.gP b o=some v->G'.gP b o=some v
 own: ∀id r,G.own id=some r->G'.own id=some r
theorem sr.refl(G:cg):sr G G:=⟨λ_ _ _ h=>h,λ_ _ h=>h⟩
theorem sr.trans{A B C:cg}(h:sr A B)(k:sr B C):sr A C:=⟨λ_ _ _ x=>k.gP _ _ _ (h.gP _ _ _ x),λ_ _ x=>k.own _ _ (h.own _ _ x)⟩
theorem V.mono{G G':cg}(hG:sr G G'){x:AV}{v:Value}(h:V G x v):V G' x v:=by
 induction h with
 |any v=>exact .any v
 |bool b=>exact .bool b
 |int k n=>exact .int k n
 |str s=>exact .str s
 |iE=>exact .iE
 |mV=>exact .mV
 |slnil full bR cap hf hb=>exact .slnil full bR cap hf hb
 |sl full elems b off cB cap val jY jS ee jz gS _ ih=>exact .sl full elems b off cB cap val jY jS ee jz (λk hk=>hG.gP _ _ _ (gS k hk)) ih
 |ip cells b off val gS _ ih=>exact .ip cells b off val (λk hk=>hG.gP _ _ _ (gS k hk)) ih
 |mp id el off r h=>exact .mp id el off r (hG.own _ _ h)
 |ms id bL len cap r addr h eE eZ ha=>exact .ms id bL len cap r addr (hG.own _ _ h) eE eZ ha
 |gC id bL cap bR hc=>exact .gC id bL cap bR hc
 |mc id bL len cap r addr h eE eZ ha=>exact .mc id bL len cap r addr (hG.own _ _ h) eE eZ ha
 |mZ id bL bR=>exact .mZ id bL bR
 |fn f fQ vs dA _ ih=>exact .fn f fQ vs dA ih
 |kK id r h=>exact .kK id r (hG.own _ _ h)
 |agg cs vs dA _ ih=>exact .agg cs vs dA ih
 |ec cs vs dA _ ih=>exact .ec cs vs dA ih
theorem VL.mono{G G':cg}(hG:sr G G'){cs:List AV}{vs:Array Value}(h:VL G cs vs):VL G' cs vs:=⟨h.1,λi x y hx hy=>(h.2 i x y hx hy).mono hG⟩
abbrev Env:=List (Nat×AV)
def bH{β:Type}:List (Nat×β)->Nat->Option β
 | [],_=>none
 |(k,x)::r,i=>bif Nat.beq k i then some x else bH r i
def eg{β:Type}:List (Nat×β)->Nat->β->List (Nat×β)
 | [],i,x=>[(i,x)]
 |(k,y)::r,i,x=>bif Nat.beq k i then(i,x)::r else(k,y)::eg r i x
theorem KV{α:Type}(k i:Nat)(x y:α):(bif Nat.beq k i then x else y)=if k=i then x else y:=by
 by_cases h:k=i
 ·subst h;rw[dD rfl,show Nat.beq k k=true from Og k];rfl
 ·rw[dM h]
  have:Nat.beq k i=false:=by
   cases hb:Nat.beq k i with
   |false=>rfl
   |true=>exact absurd (jh hb) h
  rw[this];rfl
theorem cV{β:Type}(i:Nat):bH ([]:List (Nat×β)) i=none:=rfl
theorem cM{β:Type}(k:Nat)(x:β)(r:List (Nat×β))(i:Nat):bH ((k,x)::r) i=if k=i then some x else bH r i:=KV k i _ _
theorem KW{β:Type}(i:Nat)(x:β):eg [] i x=[(i,x)]:=rfl
theorem tC{β:Type}(k:Nat)(y:β)(r:List (Nat×β))(i:Nat)(x:β):eg ((k,y)::r) i x=if k=i then(i,x)::r else(k,y)::eg r i x:=KV k i _ _
def eB{β:Type}:List (Nat×β)->Nat->List (Nat×β)
 | [],_=>[]
 |(k,y)::r,i=>if k=i then eB r i else(k,y)::eB r i
theorem eO{β:Type}(l:List (Nat×β))(i j:Nat)(x:β):bH (eg l i x) j=if i=j then some x else bH l j:=by
 induction l with
 |nil=>simp[KW,tC,cV,cM]
 |cons a r ih=>
  obtain⟨k,y⟩:=a
  simp only[KW,tC,cV,cM]
  split
  ·rename_i h;subst h;simp only[cV,cM];split<;>rfl
  ·rename_i h;simp only[cV,cM,ih];split
   ·rename_i h2;subst h2;rw[dM (by omega)]
   ·rfl
theorem fH{β:Type}(l:List (Nat×β))(i j:Nat):bH (eB l i) j=if i=j then none else bH l j:=by
 induction l with
 |nil=>simp[eB,cV,cM]
 |cons a r ih=>
  obtain⟨k,y⟩:=a
  simp only[eB]
  split
  ·rename_i h;subst h;simp only[cV,cM,ih];split<;>rfl
  ·rename_i h;simp only[cV,cM,ih];split
   ·rename_i h2;subst h2;rw[dM (by omega)]
   ·rfl
structure vW where
 bI:Env
 ntmps:Nat
 params:List Tmp
 assign:Code
 body:Code
 state:LoopState
 pending:Option Code
inductive gD where
 |cells (cB:Nat) (elems:List AV)
 |loop (l:vW)
 |gr
structure St where
 heap:List (Nat×gD)
 bT:Nat
def jm(G:cg)(bI:Env)(tmps:Array Value):Prop:= ∀t x,bH bI t=some x->t<tmps.size/\V G x (tmps.getD t undef)
theorem jm.mono{G G':cg}(hG:sr G G'){bI:Env}{tmps:Array Value}(h:jm G bI tmps):jm G' bI tmps:=λt x hx=>⟨(h t x hx).1,(h t x hx).2.mono hG⟩
inductive Holds (G:cg) (r:uW):gD->Obj->Prop
 |cells (cB:Nat) (elems:List AV) (cs:Array Value) (e:TypeId) (eC:cs.size=r.size) (ee:r.cB=cB) (h0:0<cB)
  (iM: ∀x∈elems,x.cells.length=cB) (jz: ∀x∈dn elems,x.cX=true) (eZ:r.bR+elems.length*cB<=r.size)
  (hV: ∀k x,(dn elems)[k]? =some x-> ∃v,cs[r.bR+k]? =some v/\V G x v):Holds G r (.cells cB elems) (.cells cs e (0,0))
 |loop (l:vW) (fn:FuncId) (tmps:Array Value) (d:Nat) (eC:tmps.size=l.ntmps) (hV:jm G l.bI tmps):
  Holds G r (.loop l) (.loop {state:=l.state,pending:=l.pending,fn:=fn,tmps:=tmps,params:=l.params.toArray,assign:=l.assign,body:=l.body,defers:=d})
 |gr:Holds G r .gr (.deferred (some []))
theorem Holds.mono{G G':cg}(hG:sr G G'){r:uW}{b:gD}{o:Obj}(h:Holds G r b o):Holds G' r b o:=by
 cases h with
 |cells cB elems cs e eC ee h0 iM jz eZ hV=>exact .cells cB elems cs e eC ee h0 iM jz eZ λk x hx=>let⟨v,a,b⟩:=hV k x hx;⟨v,a,b.mono hG⟩
 |loop l fn tmps d eC hV=>exact .loop l fn tmps d eC (hV.mono hG)
 |gr=>exact .gr
def lZ(G:cg)(s:St)(b:Nat):Prop:= ∃id blk r,bH s.heap id=some blk/\G.own id=some r/\r.block=b
structure eL (G:cg) (s:St) (w:World):Prop where
 gP: ∀b o v,G.gP b o=some v->w.cell? ⟨b,o,none⟩=some v
 heap: ∀id blk,bH s.heap id=some blk->(∃r o,G.own id=some r/\w.heap[r.block]? =some o/\Holds G r blk o)\/(G.own id=none/\ ∃cB,0<cB/\blk=.cells cB [])
 apart: ∀id fG blk sH r r',bH s.heap id=some blk->bH s.heap fG=some sH->G.own id=some r->G.own fG=some r'->id≠fG->r.block≠r'.block
 clear: ∀id blk r o,bH s.heap id=some blk->G.own id=some r->G.gP r.block o=none
 ct: ∀id,s.bT<=id->G.own id=none
 lt: ∀id blk,bH s.heap id=some blk->id<s.bT
theorem eL.at{G:cg}{s:St}{w:World}(h:eL G s w){id:Nat}{blk:gD}{r:uW}(hg:bH s.heap id=some blk)(ho:G.own id=some r): ∃o,w.heap[r.block]? =some o/\Holds G r blk o:=by
 rcases h.heap id blk hg with⟨r',o,e1,e2,e3⟩|⟨e,_⟩
 ·rw[ho]at e1;cases e1;exact⟨o,e2,e3⟩
 ·rw[ho]at e;cases e
structure Ext (G:cg) (s:St) (w:World) (G':cg) (s':St) (w':World):Prop where
 le:sr G G'
 os:w'.os=w.os
 tape:w'.tape=w.tape
 output:w'.output=w.output
 size:w.heap.size<=w'.heap.size
 keep: ∀b,b<w.heap.size-> ¬lZ G s b->w'.heap[b]? =w.heap[b]?
 jA: ∀b o v,G'.gP b o=some v->G.gP b o=some v\/w.heap.size<=b\/lZ G s b
 iW: ∀id r,G'.own id=some r->G.own id=some r\/(w.heap.size<=r.block\/lZ G s r.block)
 ids: ∀id blk,bH s'.heap id=some blk->(∃RQ,bH s.heap id=some RQ)\/s.bT<=id
 bT:s.bT<=s'.bT
 gr: ∀id,bH s.heap id=some .gr->bH s'.heap id=some .gr
 stay: ∀id,id<s.bT->G.own id=none->G'.own id=none
 drawn:w.drawn<=w'.drawn
theorem Ext.refl(G:cg)(s:St)(w:World):Ext G s w G s w:=
 ⟨.refl G,rfl,rfl,rfl,eF _,λ_ _ _=>rfl,λ_ _ _ h=>.inl h,λ_ _ h=>.inl h,λ_ _ h=>.inl ⟨_,h⟩,eF _,λ_ h=>h,λ_ _ h=>h,eF _⟩
theorem Ext.trans{G0 G1 G2:cg}{s0 s1 s2:St}{w0 w1 w2:World}(h0:eL G0 s0 w0)(a:Ext G0 s0 w0 G1 s1 w1)(b:Ext G1 s1 w1 G2 s2 w2):
  Ext G0 s0 w0 G2 s2 w2:=by
 have own: ∀x,lZ G1 s1 x->w0.heap.size<=x\/lZ G0 s0 x:=by
  rintro x ⟨id,blk,r,hg,ho,rfl⟩
  rcases a.iW id r ho with h|h
  ·rcases a.ids id blk hg with⟨RQ,hb⟩|KC
   ·exact .inr ⟨id,RQ,r,hb,h,rfl⟩
   ·rw[h0.ct id KC]at h;cases h
  ·exact h
 refine⟨a.le.trans b.le,b.os.trans a.os,b.tape.trans a.tape,b.output.trans a.output,vU a.size b.size,?_,?_,?_,?_,vU a.bT b.bT,λid h=>b.gr id (a.gr id h),λid hl h=>b.stay id (RH hl a.bT) (a.stay id hl h),vU a.drawn b.drawn⟩
 ·intro x hx hn
  rw[b.keep x (RH hx a.size) (λh=>(own x h).elim (λh=>by omega) hn)]
  exact a.keep x hx hn
 ·intro x o v h
  rcases b.jA x o v h with h|h|h
  ·exact a.jA x o v h
  ·exact .inr (.inl (vU a.size h))
  ·exact .inr (own x h)
 ·intro id r h
  rcases b.iW id r h with h|h|h
  ·exact a.iW id r h
  ·exact .inr (.inl (vU a.size h))
  ·exact .inr (own _ h)
 ·intro id blk h
  rcases b.ids id blk h with⟨Zb,h⟩|h
  ·exact a.ids id Zb h
  ·exact .inr (vU a.bT h)
end Go.Am
end
section
namespace Go.Am
open Go.RowKit
theorem HA{w:World}{b o:Nat}{v:Value}(h:w.cell? ⟨b,o,none⟩=some v):b<w.heap.size:=by
 unfold World.cell? at h
 split at h
 ·rename_i hb;exact(Qr.1 hb).1
 ·cases h
theorem eL.sI{G:cg}{s:St}{w:World}(h:eL G s w){b o:Nat}{v:Value}(hi:G.gP b o=some v):b<w.heap.size:=HA (h.gP _ _ _ hi)
theorem eL.jn{G:cg}{s:St}{w:World}(h:eL G s w){id:Nat}{blk:gD}{r:uW}(hg:bH s.heap id=some blk)(ho:G.own id=some r):r.block<w.heap.size:=by
 obtain⟨o,e2,_⟩:=h.at hg ho
 exact(Qr.1 e2).1
theorem vb{w:World}{o:Obj}{b i:Nat}(hb:b<w.heap.size):(w.alloc o).cell? ⟨b,i,none⟩=w.cell? ⟨b,i,none⟩:=World.cell?_alloc_lt w o _ hb
def cg.put(G:cg)(id:Nat)(r:uW):cg:={gP:=G.gP,own:=λi=>if i=id then some r else G.own i}
theorem sr.put{G:cg}{id:Nat}{r:uW}(h:G.own id=none):sr G (G.put id r):=
 ⟨λ_ _ _ h=>h,λi r' hi=>by
  simp only[cg.put]
  split
  ·subst_vars;rw[h]at hi;cases hi
  ·exact hi⟩
theorem eL.put{G:cg}{s:St}{w:World}(h:eL G s w){o:Obj}{blk:gD}{r:uW}(hr:r.block=w.heap.size)(hh:Holds (G.put s.bT r) r blk o):
  eL (G.put s.bT r) ⟨(s.bT,blk)::s.heap,s.bT+1⟩ (w.alloc o)/\Ext G s w (G.put s.bT r) ⟨(s.bT,blk)::s.heap,s.bT+1⟩ (w.alloc o):=by
 have eE:sr G (G.put s.bT r):=.put (h.ct _ (eF _))
 have pI: ∀id b,bH s.heap id=some b->id≠s.bT:=λid b hg e=>by
  have:=h.lt id b hg
  omega
 have jy: ∀id b,bH ((s.bT,blk)::s.heap) id=some b->(id=s.bT/\b=blk)\/(id≠s.bT/\bH s.heap id=some b):=λid b hg=>by
  simp only[cV,cM]at hg
  split at hg
  ·cases hg;exact .inl ⟨by omega,rfl⟩
  ·exact .inr ⟨by omega,hg⟩
 have gQ: ∀id,id≠s.bT->(G.put s.bT r).own id=G.own id:=λid eV=>by simp[cg.put,eV]
 have mD:(G.put s.bT r).own s.bT=some r:=by simp[cg.put]
 refine⟨⟨?_,?_,?_,?_,?_,?_⟩,⟨eE,rfl,rfl,rfl,by simp,?_,?_,?_,?_,by simp,λid hg=>by simp only[cV,cM];rw[dM (λe=>pI id _ hg e.symm)];exact hg,λid hl ho=>by rw[gQ id (by omega)];exact ho,eF _⟩⟩
 ·intro b i v hi
  have hb:=h.sI hi
  rw[vb hb];exact h.gP b i v hi
 ·intro id b hg
  rcases jy id b hg with⟨rfl,rfl⟩|⟨eV,hg⟩
  ·exact .inl ⟨r,o,mD,by rw[hr];show(w.heap.push o)[w.heap.size]? =some o;simp,hh⟩
  ·rcases h.heap id b hg with⟨r',o',e1,e2,e3⟩|⟨e1,e2⟩
   ·have gq:=h.jn hg e1
    exact .inl ⟨r',o',by rw[gQ id eV];exact e1,by rw[Below.heap_alloc _ _ _ gq];exact e2,e3.mono eE⟩
   ·exact .inr ⟨by rw[gQ id eV];exact e1,e2⟩
 ·intro id fG b b' r1 r2 h1 h2 o1 o2 eV
  rcases jy id b h1 with⟨rfl,rfl⟩|⟨n1,g1⟩<;>rcases jy fG b' h2 with⟨rfl,rfl⟩|⟨n2,g2⟩
  ·exact absurd rfl eV
  ·rw[mD]at o1;cases o1
   rw[gQ _ n2]at o2
   have:=h.jn g2 o2
   omega
  ·rw[mD]at o2;cases o2
   rw[gQ _ n1]at o1
   have:=h.jn g1 o1
   omega
  ·rw[gQ _ n1]at o1;rw[gQ _ n2]at o2
   exact h.apart id fG b b' r1 r2 g1 g2 o1 o2 eV
 ·intro id b r1 i hg ho
  rcases jy id b hg with⟨rfl,rfl⟩|⟨n1,g1⟩
  ·rw[mD]at ho;cases ho
   cases hi:G.gP r.block i with
   |none=>exact hi
   |some v=>have:=h.sI hi;omega
  ·rw[gQ _ n1]at ho
   exact h.clear id b r1 i g1 ho
 ·intro id jT
  rw[gQ id (by simp at jT;omega)]
  exact h.ct id (by simp at jT;omega)
 ·intro id b hg
  show id<s.bT+1
  rcases jy id b hg with⟨rfl,rfl⟩|⟨eV,hg⟩
  ·omega
  ·have:=h.lt id b hg;omega
 ·intro b hb _;exact Below.heap_alloc _ _ _ hb
 ·intro b i v hi;exact .inl hi
 ·intro id r' hi
  simp only[cg.put]at hi
  split at hi
  ·cases hi;exact .inr (.inl (by omega))
  ·exact .inl hi
 ·intro id b hg
  rcases jy id b hg with⟨rfl,rfl⟩|⟨_,g⟩
  ·exact .inr (eF _)
  ·exact .inl ⟨_,g⟩
theorem eL.drop{G:cg}{s s':St}{w:World}(h:eL G s w)(hh: ∀id b,bH s'.heap id=some b->bH s.heap id=some b)(hc:s.bT<=s'.bT):eL G s' w:=
 ⟨h.gP,λid b hg=>h.heap id b (hh id b hg),λid fG b b' r r' h1 h2=>h.apart id fG b b' r r' (hh _ _ h1) (hh _ _ h2),λid b r o hg=>h.clear id b r o (hh _ _ hg),λid jT=>h.ct id (by omega),λid b hg=>RH (h.lt id b (hh id b hg)) hc⟩
theorem Ext.drop{G:cg}{s s':St}{w:World}(hh: ∀id b,bH s'.heap id=some b->bH s.heap id=some b)(hc:s.bT<=s'.bT)
  (hd: ∀id,bH s.heap id=some .gr->bH s'.heap id=some .gr):Ext G s w G s' w:=
 {Ext.refl G s w with ids:=λid b hg=>.inl ⟨b,hh id b hg⟩,bT:=hc,gr:=hd}
theorem eL.drew{G:cg}{s:St}{w:World}(h:eL G s w):eL G s w.drew:=⟨h.gP,h.heap,h.apart,h.clear,h.ct,h.lt⟩
theorem Ext.drew(G:cg)(s:St)(w:World):Ext G s w G s w.drew:={Ext.refl G s w with keep:=λ_ _ _=>rfl,size:=eF _,drawn:=Nat.le_succ _}
def cg.gT(G:cg)(b:Nat)(cs:Array Value):cg:={gP:=λb' o=>if b'=b then cs[o]? else G.gP b' o,own:=G.own}
theorem sr.gT{G:cg}{b:Nat}{cs:Array Value}(h: ∀o v,G.gP b o=some v->cs[o]? =some v):sr G (G.gT b cs):=
 ⟨λb' o v hi=>by
  simp only[cg.gT]
  split
  ·subst_vars;exact h o v hi
  ·exact hi,λ_ _ h=>h⟩
theorem eL.RR{G:cg}{s:St}{w:World}(h:eL G s w)(cs:Array Value)(t:TypeId):
  eL (G.gT w.heap.size cs) s (w.alloc (.cells cs t))/\Ext G s w (G.gT w.heap.size cs) s (w.alloc (.cells cs t)):=by
 have hn: ∀o v,G.gP w.heap.size o=some v->cs[o]? =some v:=λo v hi=>by have:=h.sI hi;omega
 have eE:sr G (G.gT w.heap.size cs):=.gT hn
 refine⟨⟨?_,?_,?_,?_,?_,h.lt⟩,⟨eE,rfl,rfl,rfl,by simp,?_,?_,?_,?_,eF _,λ_ h=>h,λ_ _ h=>h,eF _⟩⟩
 ·intro b o v hi
  simp only[cg.gT]at hi
  split at hi
  ·subst_vars;rw[World.cell?_alloc_new];exact hi
  ·have hb:=h.sI hi
   rw[vb hb];exact h.gP b o v hi
 ·intro id b hg
  rcases h.heap id b hg with⟨r',o',e1,e2,e3⟩|e
  ·have gq:=h.jn hg e1
   exact .inl ⟨r',o',e1,by rw[Below.heap_alloc _ _ _ gq];exact e2,e3.mono eE⟩
  ·exact .inr e
 ·exact h.apart
 ·intro id b r o hg ho
  have gq:=h.jn hg ho
  simp only[cg.gT]
  split
  ·omega
  ·exact h.clear id b r o hg ho
 ·exact h.ct
 ·intro b hb _;exact Below.heap_alloc _ _ _ hb
 ·intro b o v hi
  simp only[cg.gT]at hi
  split at hi
  ·exact .inr (.inl (by omega))
  ·exact .inl hi
 ·intro id r hi;exact .inl hi
 ·intro id b hg;exact .inl ⟨b,hg⟩
theorem eL.freeze{G:cg}{s:St}{w:World}(h:eL G s w){id cB:Nat}{elems:List AV}{r:uW}{cs:Array Value}{e:TypeId}(hg:bH s.heap id=some (.cells cB elems))
  (ho:G.own id=some r) (hw:w.heap[r.block]? =some (.cells cs e (0,0))):
  eL (G.gT r.block cs) ⟨eB s.heap id,s.bT⟩ w/\Ext G s w (G.gT r.block cs) ⟨eB s.heap id,s.bT⟩ w:=by
 have eE:sr G (G.gT r.block cs):=.gT λo v hi=>by rw[h.clear id _ r o hg ho]at hi;cases hi
 have gd: ∀i b,bH (eB s.heap id) i=some b->i≠id/\bH s.heap i=some b:=λi b hi=>by
  rw[fH]at hi
  split at hi
  ·cases hi
  ·exact⟨by omega,hi⟩
 refine⟨⟨?_,?_,?_,?_,?_,λi b hi=>h.lt i b (gd i b hi).2⟩,⟨eE,rfl,rfl,rfl,eF _,λ_ _ _=>rfl,?_,?_,?_,eF _,λi hi=>by rw[fH,dM (λe=>by subst e;rw[hg]at hi;cases hi)];exact hi,λ_ _ h=>h,eF _⟩⟩
 ·intro b o v hi
  simp only[cg.gT]at hi
  split at hi
  ·subst_vars;simp[World.cell?,hw,hi]
  ·exact h.gP b o v hi
 ·intro i b hi
  rcases h.heap i b (gd i b hi).2 with⟨r',o',e1,e2,e3⟩|e
  ·exact .inl ⟨r',o',e1,e2,e3.mono eE⟩
  ·exact .inr e
 ·intro i i' b b' r1 r2 h1 h2;exact h.apart i i' b b' r1 r2 (gd _ _ h1).2 (gd _ _ h2).2
 ·intro i b r1 o hi Jl
  simp only[cg.gT]
  split
  ·rename_i hb
   exact absurd hb (h.apart i id b _ r1 r (gd i b hi).2 hg Jl ho (gd i b hi).1)
  ·exact h.clear i b r1 o (gd i b hi).2 Jl
 ·exact h.ct
 ·intro b o v hi
  simp only[cg.gT]at hi
  split at hi
  ·exact .inr (.inr ⟨id,_,r,hg,ho,by omega⟩)
  ·exact .inl hi
 ·intro i r' hi;exact .inl hi
 ·intro i b hi;exact .inl ⟨b,(gd i b hi).2⟩
theorem eL.turn{G:cg}{s:St}{w w':World}(h:eL G s w){id:Nat}{blk sH:gD}{r:uW}{o:Obj}(hg:bH s.heap id=some blk)(ho:G.own id=some r)
  (hs:w'.heap.size=w.heap.size) (Zc:w'.os=w.os) (ht:w'.tape=w.tape) (rP:w'.output=w.output)
  (hk: ∀b,b≠r.block->w'.heap[b]? =w.heap[b]?) (hw:w'.heap[r.block]? =some o) (hh:Holds G r sH o) (qQ:blk≠ .gr) (Oj:w.drawn<=w'.drawn:=by exact eF _):
  eL G ⟨eg s.heap id sH,s.bT⟩ w'/\Ext G s w G ⟨eg s.heap id sH,s.bT⟩ w':=by
 have gs: ∀i b,bH (eg s.heap id sH) i=some b->(i=id/\b=sH)\/(i≠id/\bH s.heap i=some b):=λi b hi=>by
  rw[eO]at hi
  split at hi
  ·cases hi;exact .inl ⟨by omega,rfl⟩
  ·exact .inr ⟨by omega,hi⟩
 have Ol: ∀i b,bH (eg s.heap id sH) i=some b-> ∃b0,bH s.heap i=some b0:=λi b hi=>by
  rcases gs i b hi with⟨rfl,_⟩|⟨_,hb⟩
  ·exact⟨_,hg⟩
  ·exact⟨_,hb⟩
 refine⟨⟨?_,?_,?_,?_,?_,λi b hi=>let⟨b0,DE⟩:=Ol i b hi;h.lt i b0 DE⟩,⟨.refl G,Zc,ht,rP,by omega,?_,?_,?_,?_,eF _,λi hi=>by rw[eO,dM (λe=>by subst e;rw[hg]at hi;cases hi;exact qQ rfl)];exact hi,λ_ _ h=>h,Oj⟩⟩
 ·intro b i v hi
  have eV:b≠r.block:=λe=>by subst e;rw[h.clear id _ r i hg ho]at hi;cases hi
  have:=h.gP b i v hi
  rwa[World.cell?_of_block (w:=w) (hk b eV)]
 ·intro i b hi
  rcases gs i b hi with⟨rfl,rfl⟩|⟨eV,hb⟩
  ·exact .inl ⟨r,o,ho,hw,hh⟩
  ·rcases h.heap i b hb with⟨r',o',e1,e2,e3⟩|e
   ·exact .inl ⟨r',o',e1,by rw[hk _ (h.apart i id b _ r' r hb hg e1 ho eV)];exact e2,e3⟩
   ·exact .inr e
 ·intro i i' b b' r1 r2 h1 h2 o1 o2 eV
  obtain⟨b1,g1⟩:=Ol i b h1
  obtain⟨b2,g2⟩:=Ol i' b' h2
  exact h.apart i i' b1 b2 r1 r2 g1 g2 o1 o2 eV
 ·intro i b r1 j hi Jl
  obtain⟨b1,g1⟩:=Ol i b hi
  exact h.clear i b1 r1 j g1 Jl
 ·exact h.ct
 ·intro b hb hn
  exact hk b λe=>hn ⟨id,blk,r,hg,ho,e.symm⟩
 ·intro b o v hi;exact .inl hi
 ·intro i r' hi;exact .inl hi
 ·intro i b hi;exact .inl (Ol i b hi)
theorem KY:dn []=[]:=rfl
theorem ji(x:AV)(l:List AV):dn (x::l)=x.cells++dn l:=by simp[dn]
theorem dE(a b:List AV):dn (a++b)=dn a++dn b:=by simp[dn]
theorem dF{cB:Nat}{l:List AV}(h: ∀e∈l,e.cells.length=cB):(dn l).length=l.length*cB:=by
 induction l with
 |nil=>simp[dn]
 |cons x r ih=>
  rw[ji,jW,h x (by simp),ih λe he=>h e (by simp[he]),oG,uV]
  omega
theorem oI{cB:Nat}{l:List AV}(h: ∀e∈l,e.cells.length=cB){i:Nat}{e:AV}(he:l[i]? =some e)(j:Nat)(x:AV)(hx:e.cells[j]? =some x):
  (dn l)[i*cB+j]? =some x:=by
 induction l generalizing i with
 |nil=>simp at he
 |cons y r ih=>
  rw[ji]
  cases i with
  |zero=>
   simp at he
   subst he
   have:j<y.cells.length:=(fP.1 hx).1
   rw[UY,BU,np this];exact hx
  |succ i=>
   have hy:=h y (by simp)
   rw[pG (by rw[hy,uV];omega),hy]
   have:=ih (λe he=>h e (by simp[he])) (i:=i) (by simpa using he)
   rw[show(i+1)*cB+j-cB=i*cB+j from by rw[uV];omega]
   exact this
theorem xN{cB:Nat}{l:List AV}(h: ∀e∈l,e.cells.length=cB)(h0:0<cB){k:Nat}{x:AV}(hx:(dn l)[k]? =some x):
  ∃e,l[k / cB]? =some e/\e.cells[k%cB]? =some x:=by
 have hk:k<l.length*cB:=by rw[<-dF h];exact(fP.1 hx).1
 have hd:k / cB<l.length:=Nat.div_lt_of_lt_mul (by rw[RI];exact hk)
 have he:l[k / cB]? =some l[k / cB]:=dH hd
 have hm:k%cB<(l[k / cB]).cells.length:=by rw[h _ (va hd)];exact Nat.mod_lt _ h0
 have h2:=oI h he (k%cB) _ (dH hm)
 rw[RI,Xs]at h2
 rw[hx]at h2
 exact⟨_,he,by rw[dH hm,h2]⟩
theorem VL.cells{G:cg}{x:AV}{v:Value}(h:V G x v)(hx:x≠ .any):VL G x.cells v.cells:=by
 have one: ∀{x:AV}{v:Value},V G x v->x.cells=[x]->v.cells= #[v]->VL G x.cells v.cells:=λ{x v}h hx hv=>by
  rw[hx,hv]
  refine⟨rfl,λi a b ha hb=>?_⟩
  cases i with
  |zero=>simp at ha hb;subst ha;subst hb;exact h
  |succ i=>simp at ha
 cases h with
 |any=>exact absurd rfl hx
 |agg cs vs dA h=>exact⟨dA,h⟩
 |bool b=>exact one (.bool b) rfl rfl
 |int k n=>exact one (.int k n) rfl rfl
 |str s=>exact one (.str s) rfl rfl
 |iE=>exact one .iE rfl rfl
 |mV=>exact one .mV rfl rfl
 |slnil full bR cap hf hb=>exact one (.slnil full bR cap hf hb) rfl rfl
 |sl full elems b off cB cap val jY jS ee jz gS hV=>exact one (.sl full elems b off cB cap val jY jS ee jz gS hV) rfl rfl
 |ip cells b off val gS hV=>exact one (.ip cells b off val gS hV) rfl rfl
 |mp id el off r h=>exact one (.mp id el off r h) rfl rfl
 |ms id bL len cap r addr h eE eZ ha=>exact one (.ms id bL len cap r addr h eE eZ ha) rfl rfl
 |gC id bL cap bR hc=>exact one (.gC id bL cap bR hc) rfl rfl
 |mc id bL len cap r addr h eE eZ ha=>exact one (.mc id bL len cap r addr h eE eZ ha) rfl rfl
 |mZ id bL bR=>exact one (.mZ id bL bR) rfl rfl
 |fn f fQ vs dA h=>exact one (.fn f fQ vs dA h) rfl rfl
 |kK id r h=>exact one (.kK id r h) rfl rfl
 |ec cs vs dA h=>exact one (.ec cs vs dA h) rfl rfl
theorem VL.get{G:cg}{cs:List AV}{vs:Array Value}(h:VL G cs vs){k:Nat}{x:AV}(hx:cs[k]? =some x): ∃v,vs[k]? =some v/\V G x v:=by
 have hk:k<vs.size:=by rw[<-h.1];exact(fP.1 hx).1
 exact⟨vs[k],Ky hk,h.2 k x _ hx (Ky hk)⟩
end Go.Am
end
section
namespace Go.Am
open Go.RowKit
def xO:Value->Option AV
 |.bool b=>some (.bool b)
 |.int k n=>some (.int k n)
 |.string s=>some (.str s)
 |.pointer none=>some .iE
 |.nilFunc=>some .mV
 |.slice none 0 0=>some (.sl true [])
 |_=>none
def tD:List Value->Option (List AV)
 | []=>some []
 |v::r=>match xO v,tD r with
  |some x,some l=>some (x::l)
  |_,_=>none
def ofValue:Value->Option AV
 |.agg cs=>match tD cs.toList with
  |some l=>some (.agg l)
  |none=>none
 |v=>xO v
def dr(P:Program)(t:TypeId):Option Nat:=(P.info? t).map (·.size)
def oK(P:Program)(t:TypeId):Option Nat:=(P.info? t).map (·.bytes)
def KZ(P:Program)(t:TypeId):Option Bool:=(P.underlying t).map λ|.struct _|.array _ _=>true|_=>false
def jB(P:Program)(t:TypeId):Option AV:=match(P.info? t).map (·.zero)with
 |some (some v)=>ofValue v
 |_=>none
def eh(P:Program)(t:TypeId):Option TypeId:=match P.underlying t with
 |some (.slice e)=>some e
 |_=>none
def wJ(P:Program)(t:TypeId):Option (Nat×TypeId):=match P.underlying t with
 |some (.array n e)=>some (n,e)
 |_=>none
def Vb(P:Program)(t:TypeId):Bool:=match wJ P t with
 |some (m,_)=>Nat.blt 8 m
 |none=>false
def vX(P:Program)(t:TypeId):Option AV:=bif Vb P t then none else jB P t
theorem BV{P:Program}{t:TypeId}{z:AV}(h:vX P t=some z):jB P t=some z:=by
 unfold vX at h
 cases hb:Vb P t<;>rw[hb]at h
 ·exact h
 ·cases h
def wK(P:Program)(t:TypeId):Bool:=match P.underlying t with
 |some .string=>true
 |_=>false
def FV(P:Program)(t:TypeId):Option IntKind:=match P.underlying t with
 |some (.int k)=>some k
 |_=>none
def nr(P:Program)(t:TypeId)(i:Nat):Option (Nat×Nat):=match P.underlying t with
 |some (.struct fs)=>match fs[i]? with
  |some f=>match dr P f.type with
   |some n=>some (f.offset,n)
   |none=>none
  |none=>none
 |_=>none
def xd(P:Program)(t:TypeId):Bool:=match P.underlying t with
 |some (.struct fs)=>fs.toList.all λf=>(dr P f.type).isSome
 |_=>false
def BW(P:Program)(t:TypeId)(i:Nat):Option TypeId:=match P.underlying t with
 |some (.struct fs)=>(fs[i]?).map (·.type)
 |_=>none
def oper(bI:Env):Operand->Option AV
 |.tmp t=>bH bI t
 |.const v=>ofValue v
 |.func f=>some (.fn f [])
 |.global _=>none
def opers(bI:Env):List Operand->Option (List AV)
 | []=>some []
 |x::r=>match oper bI x,opers bI r with
  |some v,some l=>some (v::l)
  |_,_=>none
def na(s:St):AV->Option (List AV)
 |.mp id el off=>match bH s.heap id with
  |some (.cells _ elems)=>match elems[el]? with
   |some e=>some (e.cells.drop off)
   |none=>none
  |_=>none
 |.ip cells=>some cells
 |_=>none
def qa(P:Program)(t:TypeId)(cs:List AV):Option AV:=
 match KZ P t with
 |some true=>match dr P t with
  |some n=>if n<=cs.length then some (.agg (cs.take n))else none
  |none=>none
 |some false=>match cs with
  |x::_=>some x
  | []=>none
 |none=>none
def pJ(P:Program)(t:TypeId)(p:AV)(s:St):Option AV:=
 match na s p with
 |some cs=>qa P t cs
 |none=>none
def jC(cs:List AV)(off:Nat)(new:List AV):List AV:=cs.take off++(new++cs.drop (off+new.length))
def qb(e:AV)(cs:List AV):AV:=match e with
 |.agg _=>.agg cs
 |_=>match cs with
  |x::_=>x
  | []=>.any
def xP(P:Program)(t:TypeId)(p v:AV)(s:St):Option St:=
 match p with
 |.mp id el off=>match bH s.heap id with
  |some (.cells cB elems)=>match elems[el]? with
   |some e=>if dr P t=some v.cells.length/\off+v.cells.length<=e.cells.length/\v.cells.all AV.cX=true then
     some ⟨eg s.heap id (.cells cB (elems.set el (qb e (jC e.cells off v.cells)))),s.bT⟩
    else none
   |none=>none
  |_=>none
 |_=>none
def BX(v:AV)(s:St):Option (AV×St):=
 if 0<v.cells.length/\v.cells.all AV.cX=true then some (.mp s.bT 0 0,⟨(s.bT,.cells v.cells.length [v])::s.heap,s.bT+1⟩)else none
def DF(v:AV)(s:St):Option (AV×St):=
 if 0<v.cells.length/\v.cells.all AV.cX=true then some (.mp s.bT 0 0,⟨(s.bT,.cells 1 v.cells)::s.heap,s.bT+1⟩)else none
def xQ(P:Program)(t:TypeId)(p:AV)(i:Nat):Option AV:=
 match nr P t i with
 |some (off,n)=>if n=0 then none else match p with
  |.mp id el o=>some (.mp id el (o+off))
  |.ip cells=>some (.ip (cells.drop off))
  |_=>none
 |none=>none
def K0(P:Program)(t:TypeId)(x:AV)(off:Nat):Option AV:=match x with
 |.agg cs=>qa P t (cs.drop off)
 |_=>none
def tF(P:Program)(t:TypeId)(x:AV)(i:Nat):Option AV:=
 match nr P t i,BW P t i with
 |some (off,_),some ft=>K0 P ft x off
 |_,_=>none
def eX(P:Program)(t:TypeId)(x:AV)(i:AV)(s:St):Option AV:=
 match i with
 |.int _ n=>match eh P t with
  |some e=>match x with
   |.sl _ elems=>if 0<=n then match elems[n.toNat]? with
     |some y=>if dr P e=some y.cells.length then some (.ip y.cells)else none
     |none=>none
    else none
   |.ms id bL len=>match bH s.heap id with
    |some (.cells cB _)=>if 0<=n/\n<len/\dr P e=some cB then some (.mp id (bL+n.toNat) 0)else none
    |_=>none
   |_=>none
  |none=>match wJ P t with
   |some (m,e)=>match dr P e with
    |some sz=>if 0<=n/\n<m then match x with
      |.mp id el off=>bif Nat.blt 8 m then(match bH s.heap id with
       |some (.cells cB _)=>if cB=sz/\off=0 then some (.mp id (el+n.toNat) 0)else none
       |_=>none)else some (.mp id el (off+n.toNat*sz))
      |.ip cells=>some (.ip (cells.drop (n.toNat*sz)))
      |_=>none
     else none
    |none=>none
   |none=>none
 |_=>none
def sJ(P:Program)(t:TypeId)(x:AV)(i:AV):Option AV:=
 match i with
 |.int _ n=>match x with
  |.str b=>if wK P t=true/\0<=n then match b[n.toNat]? with
    |some c=>some (.int .u8 c.toNat)
    |none=>none
   else none
  |.agg cs=>match wJ P t with
   |some (m,e)=>match dr P e with
    |some sz=>if 0<=n/\n<m then qa P e (cs.drop (n.toNat*sz))else none
    |none=>none
   |none=>none
  |_=>none
 |_=>none
def gl(bI:Env)(x:Option Operand)(d:Nat):Option Nat:=match x with
 |none=>some d
 |some o=>match oper bI o with
  |some (.int _ n)=>if 0<=n then some n.toNat else none
  |_=>none
def oL(P:Program)(t:TypeId)(x:AV)(bI:Env)(lo hi mx:Option Operand)(s:St):Option AV:=
 match x with
 |.str b=>if wK P t=true/\mx.isNone=true then match gl bI lo 0,gl bI hi b.size with
   |some l,some h=>if l<=h/\h<=b.size then some (.str (b.extract l h))else none
   |_,_=>none
  else none
 |.sl full elems=>match eh P t with
  |some e=>match gl bI lo 0,gl bI hi elems.length,mx with
   |some l,some h,none=>if l<=h/\h<=elems.length/\(∀y∈elems.head?,dr P e=some y.cells.length)/\(dr P e).isSome=true then
     some (.sl (full&&h==elems.length) ((elems.take h).drop l))else none
   |some l,some h,some m=>match gl bI (some m) 0 with
    |some m=>if l<=h/\h<=m/\m<=elems.length/\hi.isSome=true/\(∀y∈elems.head?,dr P e=some y.cells.length)/\(dr P e).isSome=true then
      some (.sl (m==h) ((elems.take h).drop l))else none
    |none=>none
   |_,_,_=>none
  |none=>none
 |.ms id bL len=>match eh P t with
  |some e=>match bH s.heap id with
   |some (.cells cB _)=>match gl bI lo 0,gl bI hi len,mx with
    |some l,some h,none=>if l<=h/\h<=len/\dr P e=some cB then some (.ms id (bL+l) (h-l))else none
    |some l,some h,some m=>match gl bI (some m) 0 with
     |some m=>if l<=h/\h<=m/\m<=len/\hi.isSome=true/\dr P e=some cB then some (.ms id (bL+l) (h-l))else none
     |none=>none
    |_,_,_=>none
   |_=>none
  |none=>none
 |.mc id bL len cap=>match eh P t with
  |some e=>match bH s.heap id with
   |some (.cells cB _)=>match gl bI lo 0,gl bI hi len,mx with
    |some l,some h,none=>if l<=h/\h<=cap/\dr P e=some cB then some (.mc id (bL+l) (h-l) (cap-l))else none
    |_,_,_=>none
   |_=>none
  |none=>none
 |_=>none
def fO(x:AV)(s:St):Option (List AV):=match x with
 |.sl _ elems=>some elems
 |.ms id bL len=>match bH s.heap id with
  |some (.cells _ elems)=>if bL+len<=elems.length then some ((elems.drop bL).take len)else none
  |_=>none
 |_=>none
def fits(P:Program)(e:TypeId)(l:List AV):Prop:= ∀y∈l.head?,dr P e=some y.cells.length
instance (P:Program) (e:TypeId) (l:List AV):Decidable (fits P e l):=by unfold fits;exact inferInstance
def kT(P:Program)(e:TypeId)(x:AV)(s:St):Prop:=match x with
 |.sl _ elems=>fits P e elems
 |.ms id _ _=>match bH s.heap id with
  |some (.cells cB _)=>dr P e=some cB
  |_=>False
 |_=>False
instance (P:Program) (e:TypeId) (x:AV) (s:St):Decidable (kT P e x s):=by
 unfold kT;split
 ·exact inferInstance
 ·split<;>exact inferInstance
 ·exact inferInstance
def bJ:Nat:=4294967296
def vc(P:Program)(e:TypeId)(sz:Nat):Bool:=match jB P e with
 |some z=>z.cells.length==sz&&z.cells.all AV.cX
 |none=>false
def fW(P:Program)(t:TypeId)(x:AV)(new:List AV)(s:St):Option (AV×St):=
 match eh P t with
 |some e=>match dr P e,oK P e with
  |some sz,some FW=>if 0<sz/\FW<=4096/\vc P e sz=true then
    match x with
    |.sl full elems=>if new=[]then some (.sl full elems,s)else
     if full=true/\elems.length+new.length<=bJ/\fits P e elems then
      some (.ms s.bT 0 (elems.length+new.length),⟨(s.bT,.cells sz (elems++new))::s.heap,s.bT+1⟩)else none
    |.ms id bL len=>if new=[]then some (.ms id bL len,s)else
     match bH s.heap id with
     |some (.cells cB elems)=>if cB=sz/\bL+len<=elems.length/\len+new.length<=bJ then
       some (.ms s.bT 0 (len+new.length),⟨(s.bT,.cells sz ((elems.drop bL).take len++new))::eB s.heap id,s.bT+1⟩)else none
     |_=>none
    |.mc id bL len cap=>match bH s.heap id with
     |some (.cells cB elems)=>if new≠[]/\cB=sz/\bL+len<=elems.length/\cap<len+new.length/\len+new.length<=bJ then
       some (.ms s.bT 0 (len+new.length),⟨(s.bT,.cells sz ((elems.drop bL).take len++new))::s.heap,s.bT+1⟩)else none
     |_=>none
    |_=>none
   else none
  |_,_=>none
 |none=>none
def xI(P:Program)(t:TypeId)(x:AV)(new:List AV)(s:St):Option (AV×St):=
 match eh P t with
 |some e=>match x with
  |.ms id bL len=>match bH s.heap id with
   |some (.cells cB elems)=>if dr P e=some cB/\bL+len<=elems.length then
    let n:=min new.length len
    some (.int .i64 n,⟨eg s.heap id (.cells cB (elems.take bL++(new.take n++elems.drop (bL+n)))),s.bT⟩)else none
   |_=>none
  |.mc id bL len _=>match bH s.heap id with
   |some (.cells cB elems)=>if dr P e=some cB/\bL<=elems.length then
    let n:=min new.length len
    some (.int .i64 n,⟨eg s.heap id (.cells cB (elems.take bL++(new.take n++elems.drop (bL+n)))),s.bT⟩)else none
   |_=>none
  |.sl _ elems=>if min new.length elems.length=0/\(dr P e).isSome=true then some (.int .i64 0,s)else none
  |_=>none
 |none=>none
def Vc:AV->Option Nat
 |.sl _ l=>some l.length
 |.ms _ _ n=>some n
 |.mc _ _ n _=>some n
 |_=>none
def BT(P:Program)(t:TypeId)(x:AV)(id bL len:Nat)(s:St):Option (AV×St):=
 match eh P t,bH s.heap id,Vc x with
 |some e,some (.cells cB elems),some n=>if dr P e=some cB/\bL+min len n<=elems.length then xI P t x ((elems.drop bL).take (min len n)) s else none
 |_,_,_=>none
def RU(P:Program)(t:TypeId)(x:AV):Option AV:=match x with
 |.mc _ _ _ cap=>if(eh P t).isSome=true then some (.int .i64 cap)else none
 |.sl true elems=>if(eh P t).isSome=true then some (.int .i64 elems.length)else none
 |_=>none
def FX(P:Program)(t:TypeId)(x:AV)(s:St):Option (AV×St):=match eh P t,x with
 |some e,.ms id bL len=>match bH s.heap id,jB P e with
  |some (.cells cB elems),some z=>if dr P e=some cB/\z.cells.length=cB/\z.cells.all AV.cX=true/\bL+len<=elems.length then
   some (.ec [],⟨eg s.heap id (.cells cB (elems.take bL++(List.replicate len z++elems.drop (bL+len)))),s.bT⟩)else none
  |_,_=>none
 |_,_=>none
def Ad(P:Program)(t:TypeId)(x:AV):Option AV:=match x with
 |.mc _ _ len _=>if(eh P t).isSome=true then some (.int .i64 len)else none
 |.sl _ elems=>if(eh P t).isSome=true then some (.int .i64 elems.length)else none
 |.ms _ _ len=>if(eh P t).isSome=true then some (.int .i64 len)else none
 |.str b=>if wK P t=true then some (.int .i64 b.size)else none
 |_=>match wJ P t with
  |some (n,_)=>some (.int .i64 n)
  |none=>none
def DG(P:Program)(t:TypeId)(l c:AV)(s:St):Option (AV×St):=
 match l,c,eh P t with
 |.int _ n,.int _ m,some e=>match dr P e,oK P e,jB P e with
  |some sz,some FW,some z=>if 0<=n/\n<=m/\m<=bJ/\0<sz/\z.cells.length=sz/\z.cells.all AV.cX=true/\FW<=4096 then
   some (.ms s.bT 0 n.toNat,⟨(s.bT,.cells sz (List.replicate n.toNat z))::s.heap,s.bT+1⟩)else none
  |_,_,_=>none
 |_,_,_=>none
def xR(op:BinOp)(k:IntKind)(x y:Int):Option AV:=match op with
 |.add=>some (.int k (k.wrap (x+y)))
 |.sub=>some (.int k (k.wrap (x-y)))
 |.mul=>some (.int k (k.wrap (x*y)))
 |.quo=>if y=0 then none else some (.int k (k.wrap (x.tdiv y)))
 |.rem=>if y=0 then none else some (.int k (x.tmod y))
 |.eql=>some (.bool (decide (x=y)))
 |.neq=>some (.bool (decide (x≠y)))
 |.lss=>some (.bool (decide (x<y)))
 |.leq=>some (.bool (decide (x<=y)))
 |.gtr=>some (.bool (decide (y<x)))
 |.geq=>some (.bool (decide (y<=x)))
 |.shl=>if y<0 then none else some (.int k (k.wrap (x*2^(min y.toNat k.bits))))
 |.shr=>if y<0 then none else some (.int k (x.fdiv (2^(min y.toNat k.bits))))
 |.and|.or|.xor|.andNot=>none
def qR(P:Program)(eq:TypeId->AV->AV->Option Bool)(xs ys:List AV):List Field->Option Bool
 | []=>some true
 | f :: fs => if f.name = "_" then none else
  match qa P f.type (xs.drop f.offset),qa P f.type (ys.drop f.offset)with
  |some a,some b=>match eq f.type a b,qR P eq xs ys fs with
   |some r,some r'=>some (r&&r')
   |_,_=>none
  |_,_=>none
def Om(P:Program):Nat->TypeId->AV->AV->Option Bool
 |0,_,_,_=>none
 |d+1,t,x,y=>
  match P.underlying t,x,y with
  |some .bool,.bool a,.bool b=>some (a==b)
  |some (.int _),.int k a,.int k' b=>if k=k' then some (decide (a=b))else none
  |some .string,.str a,.str b=>some (a.toList==b.toList)
  |some (.pointer _),.iE,.iE=>some true
  |some (.pointer _),.iE,.mp _ _ _=>some false
  |some (.pointer _),.mp _ _ _,.iE=>some false
  |some (.func _ _ _),.mV,.mV=>some true
  |some (.func _ _ _),.mV,.fn _ _=>some false
  |some (.func _ _ _),.fn _ _,.mV=>some false
  |some (.struct fs),.agg xs,.agg ys=>if P.stoodInHeld t=true then none else qR P (Om P d) xs ys fs.toList
  |_,_,_=>none
def FY(P:Program)(op:BinOp)(t:TypeId)(x y:AV):Option AV:=
 match x,y with
 |.int k a,.int k' b=>match op with
  |.shl|.shr=>xR op k a b
  |_=>if k=k' then xR op k a b else none
 |.str a,.str b=>match op with
  |.add=>if a.size+b.size<=maxLen then some (.str (a++b))else none
  |.eql=>some (.bool (a.toList==b.toList))
  |.neq=>some (.bool !(a.toList==b.toList))
  |.lss=>some (.bool (Op.bytesLess a.toList b.toList))
  |.geq=>some (.bool !(Op.bytesLess a.toList b.toList))
  |.leq=>some (.bool (Op.bytesLess a.toList b.toList||a.toList==b.toList))
  |.gtr=>some (.bool !(Op.bytesLess a.toList b.toList||a.toList==b.toList))
  |_=>none
 |x,y=>if P.eqGuardType P.depth t=true then none else match op with
  |.eql=>match Om P 8 t x y with
   |some b=>some (.bool b)
   |none=>none
  |.neq=>match Om P 8 t x y with
   |some b=>some (.bool !b)
   |none=>none
  |_=>none
def Zd(op:UnOp)(x:AV):Option AV:=match op,x with
 |.not,.bool b=>some (.bool !b)
 |.neg,.int k n=>some (.int k (k.wrap (0-n)))
 |_,_=>none
def nP(P:Program)(src dst:TypeId)(x:AV):Option AV:=match x with
 |.int _ n=>if(P.underlying src).isSome=true then match FV P dst with
   |some k=>some (.int k (k.wrap n))
   |none=>none
  else none
 |.str b=>if(P.underlying src).isSome=true/\wK P dst=true then some (.str b)else none
 |_=>none
def ss(bQ:Nat->Option (Nat×Nat))(cells:List AV):List (Nat×AV)->Option (List AV)
 | []=>some cells
 |(i,v)::r=>match bQ i with
  |some (off,n)=>if v.cells.length=n/\v.cells.all AV.cX=true/\off+n<=cells.length then ss bQ (jC cells off v.cells) r else none
  |none=>none
def lV(bI:Env):List (Nat×Operand)->Option (List (Nat×AV))
 | []=>some []
 |(i,x)::r=>match oper bI x,lV bI r with
  |some v,some l=>some ((i,v)::l)
  |_,_=>none
def xS(P:Program)(t:TypeId)(cA:List (Nat×AV)):Option AV:=
 match jB P t with
 |some (.agg cs)=>if xd P t=true then match ss (nr P t) cs cA with
   |some l=>some (.agg l)
   |none=>none
  else match wJ P t with
  |some (_,e)=>match dr P e with
   |some sz=>match ss (λi=>some (i*sz,sz)) cs cA with
    |some l=>some (.agg l)
    |none=>none
   |none=>none
  |none=>none
 |_=>none
def nQ(l:List (Nat×AV))(i:Nat):Bool:=match l with
 | []=>true
 |(j,_)::r=>j==i&&nQ r (i+1)
def fZ(P:Program)(t:TypeId)(len:Nat)(cA:List (Nat×AV)):Option AV:=
 match eh P t with
 |some e=>match dr P e,jB P e with
  |some sz,some z=>if cA.length=len/\nQ cA 0=true/\(∀p∈cA,p.2.cells.length=sz/\p.2.cells.all AV.cX=true)/\len*sz<=16777216/\0<sz/\z.cells.length=sz then
   some (.sl true (cA.map (·.2)))else none
  |_,_=>none
 |none=>none
def OM:AV->AV->Option AV
 |.int k x,.int k' y=>if k=k' then some (.int k (if y<x then y else x))else none
 |_,_=>none
def ON:AV->AV->Option AV
 |.int k x,.int k' y=>if k=k' then some (.int k (if x<y then y else x))else none
 |_,_=>none
def vY(f:AV->AV->Option AV):AV->List AV->Option AV
 |x,[]=>some x
 |x,y::r=>match f x y with
  |some z=>vY f z r
  |none=>none
def gu(v:Option AV)(s:St):Option (AV×St):=match v with
 |some v=>some (v,s)
 |none=>none
def iX(P:Program)(op:Op)(bI:Env)(s:St):Option (AV×St):=
 match op with
 |.move x|.assign x=>gu (oper bI x) s
 |.pick c a b=>match oper bI c with
  |some (.bool t)=>if t then gu (oper bI a) s else gu (oper bI b) s
  |_=>none
 |.alloc t=>match vX P t with
  |some z=>BX z s
  |none=>match jB P t with
   |some z=>DF z s
   |none=>none
 |.box _ x=>match oper bI x with
  |some v=>BX v s
  |none=>none
 |.build t cA=>match lV bI cA.toList with
  |some l=>gu (xS P t l) s
  |none=>none
 |.buildSlice t len cA=>match lV bI cA.toList with
  |some l=>gu (fZ P t len l) s
  |none=>none
 |.load t p=>match oper bI p with
  |some p=>gu (pJ P t p s) s
  |none=>none
 |.store t p x=>match oper bI p,oper bI x with
  |some p,some x=>match xP P t p x s with
   |some s'=>some (.any,s')
   |none=>none
  |_,_=>none
 |.nilCheck x=>match oper bI x with
  |some (.mp id el off)=>some (.mp id el off,s)
  |some (.ip cells)=>some (.ip cells,s)
  |some (.fn f fQ)=>some (.fn f fQ,s)
  |_=>none
 |.binOp op t x y _=>match oper bI x,oper bI y with
  |some x,some y=>gu (FY P op t x y) s
  |_,_=>none
 |.unOp op _ x=>match oper bI x with
  |some x=>gu (Zd op x) s
  |none=>none
 |.convert src dst x=>match oper bI x with
  |some x=>gu (nP P src dst x) s
  |none=>none
 |.makeFunc (.func f) first fQ=>if first.size=0 then match opers bI fQ.toList with
   |some l=>some (.fn f l,s)
   |none=>none
  else none
 |.slice t x lo hi mx=>match oper bI x with
  |some x=>gu (oL P t x bI lo hi mx s) s
  |none=>none
 |.fieldAddr t x i=>match oper bI x with
  |some x=>gu (xQ P t x i) s
  |none=>none
 |.field t x i=>match oper bI x with
  |some x=>gu (tF P t x i) s
  |none=>none
 |.indexAddr t x i=>match oper bI x,oper bI i with
  |some x,some i=>gu (eX P t x i s) s
  |_,_=>none
 |.index t x i=>match oper bI x,oper bI i with
  |some x,some i=>gu (sJ P t x i) s
  |_,_=>none
 |.extract x i=>match oper bI x with
  |some (.ec vs)=>gu vs[i]? s
  |_=>none
 |.makeSlice t l c=>match oper bI l,oper bI c with
  |some l,some c=>DG P t l c s
  |_,_=>none
 |.call c=>match c.callee with
  |.builtin .len=>match opers bI c.args.toList,c.argTypes[0]? with
   |some [x],some t=>gu (Ad P t x) s
   |_,_=>none
  |.builtin .append=>match opers bI c.args.toList,c.argTypes[0]?,c.argTypes[1]? with
   |some [x,y],some t,some u=>match y with
    |.int _ n=>match eh P t with
     |some e=>match jB P e with
      |some z=>if 0<=n/\n<=bJ/\(FV P u).isSome=true/\dr P e=some z.cells.length/\z.cells.all AV.cX=true then fW P t x (List.replicate n.toNat z) s else none
      |none=>none
     |none=>none
    |y=>match eh P t,fO y s with
     |some e,some new=>if kT P e y s/\(eh P u).isSome=true then fW P t x new s else none
     |_,_=>none
   |_,_,_=>none
  |.builtin .copy=>match opers bI c.args.toList,c.argTypes[0]? with
   |some [x,y],some t=>match y with
    |.mc id bL len _=>BT P t x id bL len s
    |y=>match eh P t,fO y s with
     |some e,some new=>if kT P e y s then xI P t x new s else none
     |_,_=>none
   |_,_=>none
  |.builtin .cap=>match opers bI c.args.toList,c.argTypes[0]? with
   |some [x],some t=>gu (RU P t x) s
   |_,_=>none
  |.builtin .clear=>match opers bI c.args.toList,c.argTypes[0]? with
   |some [x],some t=>FX P t x s
   |_,_=>none
  |.builtin .min=>match opers bI c.args.toList with
   |some (x::r)=>gu (vY OM x r) s
   |_=>none
  |.builtin .max=>match opers bI c.args.toList with
   |some (x::r)=>gu (vY ON x r) s
   |_=>none
  |_=>none
 |_=>none
end Go.Am
end
section
namespace Go.Am
open Go.RowKit
def vd(o:Option Nat):Fence:={Fence.wide with round:=o}
def wL(G:cg)(ρ:Option Nat):Option Nat:=match ρ with
 |none=>none
 |some id=>(G.own id).map (·.block)
theorem qc{o:Option Nat}{n:Nat}{P:Program}{f:FuncId}{args:Array Value}{w:World}{R:Ending->World->Prop}(h:Calls P f args w R):CallsIn (vd o) n P f args w R:=
 have h':CallsIn Fence.wide n P f args w R:=callsIn_wide.2 h
 h'
def wM(G:cg)(s:St)(w:World)(Q:AV->St->Prop)(e:Ending)(w':World):Prop:=
 ∃v G' x s',e=.returned v/\V G' x v/\eL G' s' w'/\Ext G s w G' s' w'/\Q x s'
theorem wM.mono{G:cg}{s:St}{w:World}{Q Q':AV->St->Prop}{e:Ending}{w':World}(h:wM G s w Q e w')(hq: ∀x s',Q x s'->Q' x s'):wM G s w Q' e w':=
 let⟨v,G',x,s',a,b,c,d,q⟩:=h;⟨v,G',x,s',a,b,c,d,hq _ _ q⟩
def dQ(P:Program)(f:FuncId)(args:List AV)(s:St)(Q:AV->St->Prop):Prop:=
 ∀G w vs,eL G s w->VL G args vs->Calls P f vs w (wM G s w Q)
theorem dQ.mono{P:Program}{f:FuncId}{args:List AV}{s:St}{Q Q':AV->St->Prop}(h:dQ P f args s Q)(hq: ∀x s',Q x s'->Q' x s'):dQ P f args s Q':=
 λG w vs hs hv=>(h G w vs hs hv).mono λ_ _ hg=>hg.mono hq
def iY(P:Program)(id:Nat)(args:List AV)(s:St)(Q:AV->St->Prop):Prop:=
 ∀o G w r vs,eL G s w->G.own id=some r->VL G args vs-> ∃fn tmps assign body,(Instr.yield r.block vs).run P w=.ok (.round r.block fn tmps assign body) w/\
  RoundIn (vd o) 0 P r.block fn tmps assign body w (wM G s w Q)
theorem iY.mono{P:Program}{f:FuncId}{args:List AV}{s:St}{Q Q':AV->St->Prop}(h:iY P f args s Q)(hq: ∀x s',Q x s'->Q' x s'):iY P f args s Q':=
 λo G w r vs hs hr hv=>let⟨fn,tmps,assign,body,h1,h2⟩:=h o G w r vs hs hr hv;⟨fn,tmps,assign,body,h1,h2.mono λ_ _ hg=>hg.mono hq⟩
def oM(G:cg)(s:St):List Deferred->Prop
 | []=>True
 |d::ds=>(∃id r,bH s.heap id=some .gr/\G.own id=some r/\d.target=.collected r.block/\ ∀d'∈ds,∀b,d'.target=.collected b->b≠r.block)/\oM G s ds
theorem oM.ext{G G':cg}{s s':St}{w w':World}(h:Ext G s w G' s' w'): ∀{ds:List Deferred},oM G s ds->oM G' s' ds
 | [],_=>trivial
 |_::_,⟨⟨id,r,a,b,c,d⟩,hr⟩=>⟨⟨id,r,h.gr id a,h.le.own _ _ b,c,d⟩,oM.ext h hr⟩
def vZ(G:cg)(ρ:Option Nat):Prop:= ∀id,ρ=some id-> ∃r,G.own id=some r
theorem HB{G G':cg}{ρ:Option Nat}(h:sr G G')(hk:vZ G ρ):wL G' ρ=wL G ρ:=by
 cases ρ with
 |none=>rfl
 |some id=>
  obtain⟨r,hr⟩:=hk id rfl
  simp[wL,hr,h.own _ _ hr]
theorem vZ.le{G G':cg}{ρ:Option Nat}(h:sr G G')(hk:vZ G ρ):vZ G' ρ:=λid e=>let⟨r,hr⟩:=hk id e;⟨r,h.own _ _ hr⟩
structure xe (G:cg) (N:Nat) (ρ:Option Nat) (bI:Env) (s:St) (a:Act) (w:World):Prop where
 iQ:eL G s w
 bI:jm G bI a.tmps
 size:a.tmps.size=N
 mg:oM G s a.defers
 known:vZ G ρ
def ia(G:cg)(N:Nat)(ρ:Option Nat)(s:St)(w:World)(Q:Exit->Env->St->Prop)(e:Exit)(a':Act)(w':World):Prop:=
 ∃G' env' s',xe G' N ρ env' s' a' w'/\Ext G s w G' s' w'/\Q e env' s'
def lT(P:Program)(N:Nat)(ρ:Option Nat)(c:Code)(Q:Exit->Env->St->Prop)(bI:Env)(s:St):Prop:=
 ∀G w a,xe G N ρ bI s a w->c.wpIn (vd (wL G ρ)) 0 P (ia G N ρ s w Q) a w
def RV(K:Env->St->Prop)(Q:Exit->Env->St->Prop):Exit->Env->St->Prop
 |.normal,bI,s=>K bI s
 |e,bI,s=>Q e bI s
def oN(id:Nat)(Q:Exit->Env->St->Prop):Exit->Env->St->Prop
 |.exit fG,bI,s=>if fG=id then Q .normal bI s else Q (.exit fG) bI s
 |e,bI,s=>Q e bI s
def fF(d:Option Nat)(v:AV)(bI:Env):Env:=match d with
 |some d=>eg bI d v
 |none=>bI
def enters(P:Program)(f:FuncId):Bool:=match P.funcs[f]? with
 | some fn => fn.name != "runtime.NumGoroutine" && fn.body.isSome
 |none=>false
def ga:Op->Option (Operand×List Operand)
 |.call {callee:=.value f,args,..}=>some (f,args.toList)
 |_=>none
def Vd(P:Program)(o:Oper)(K:AV->St->Prop)(bI:Env)(s:St):Prop:=
 match ga o.op with
 |some (f,args)=>match oper bI f,opers bI args with
  |some (.fn g fQ),some l=>enters P g=true/\dQ P g (l++fQ) s K
  |some (.kK id),some l=>iY P id l s K
  |_,_=>False
 |none=>match iX P o.op bI s with
  |some (v,s')=>K v s'
  |none=>False
def XL(ops:Array Oper)(o:Oper)(bI:Env)(A B:Prop):Prop:=
 match o.guard with
 |none=>A
 |some (j,want)=>match(ops[j]?).bind (·.dst)with
  |some d=>match bH bI d with
   |some (.bool b)=>(b=want->A)/\(b=!want->B)
   |some (.ec [])=>B
   |_=>False
  |none=>False
def mE(N:Nat):Option Nat->Bool
 |some d=>decide (d<N)
 |none=>true
section
variable {P:Program} {N:Nat} {ρ:Option Nat} {Q Q':Exit->Env->St->Prop} {bI:Env} {s:St}
theorem ia.mono{G:cg}{w:World}{e:Exit}{a':Act}{w':World}(h:ia G N ρ s w Q e a' w')(hq: ∀e bI s,Q e bI s->Q' e bI s):ia G N ρ s w Q' e a' w':=
 let⟨G',env',s',a,b,c⟩:=h;⟨G',env',s',a,b,hq _ _ _ c⟩
theorem lT.mono{c:Code}(h:lT P N ρ c Q bI s)(hq: ∀e bI s,Q e bI s->Q' e bI s):lT P N ρ c Q' bI s:=
 λG w a hn=>wpIn_mono (h G w a hn) λ_ _ _ ha=>ha.mono hq
theorem xe.after{G:cg}{e:Exit}{a:Act}{w:World}(h:xe G N ρ bI s a w)(hq:Q e bI s):ia G N ρ s w Q e a w:=⟨G,bI,s,h,.refl _ _ _,hq⟩
theorem lT.later{c:Code}{G G':cg}{s0:St}{w0:World}{w:World}{a:Act}(h:lT P N ρ c Q bI s)(h0:eL G s0 w0)(hk:vZ G ρ)(hx:Ext G s0 w0 G' s w)(hn:xe G' N ρ bI s a w):
  c.wpIn (vd (wL G ρ)) 0 P (ia G N ρ s0 w0 Q) a w:=by
 have:=h G' w a hn
 rw[HB hx.le hk]at this
 exact wpIn_mono this λe a' w' ⟨G2,ve,s2,n2,x2,q2⟩=>⟨G2,ve,s2,n2,.trans h0 hx x2,q2⟩
theorem OO(h:Q .ret bI s):lT P N ρ .ret Q bI s:=λ_ _ _ hn=>wpIn_ret (hn.after h)
theorem BZ{x y:Code}(h:lT P N ρ x (RV (lT P N ρ y Q) Q) bI s):lT P N ρ (.seq x y) Q bI s:=λG w a hn=>by
 refine wpIn_seq (wpIn_mono (h G w a hn) ?_)
 rintro e a' w' ⟨G',env',s',n',x',q'⟩
 cases e with
 |normal=>exact lT.later q' hn.iQ hn.known x' n'
 |exit id=>exact⟨G',env',s',n',x',q'⟩
 |goto l=>exact⟨G',env',s',n',x',q'⟩
 |ret=>exact⟨G',env',s',n',x',q'⟩
 |panic ch=>exact⟨G',env',s',n',x',q'⟩
 |outgrown=>exact⟨G',env',s',n',x',q'⟩
theorem Jm{id:Nat}{c:Code}(h:lT P N ρ c (oN id Q) bI s):lT P N ρ (.block id c) Q bI s:=λG w a hn=>by
 refine wpIn_block (wpIn_mono (h G w a hn) ?_)
 rintro e a' w' ⟨G',env',s',n',x',q'⟩
 cases e with
 |exit fG=>
  simp only[oN]at q'
  simp only[Exit.inBlock]
  split
  ·rename_i he;rw[dD he]at q';exact⟨G',env',s',n',x',q'⟩
  ·rename_i he;rw[dM he]at q';exact⟨G',env',s',n',x',q'⟩
 |normal=>exact⟨G',env',s',n',x',q'⟩
 |goto l=>exact⟨G',env',s',n',x',q'⟩
 |ret=>exact⟨G',env',s',n',x',q'⟩
 |panic ch=>exact⟨G',env',s',n',x',q'⟩
 |outgrown=>exact⟨G',env',s',n',x',q'⟩
theorem FZ{F:Fence}{n:Nat}{R:Exit->Act->World->Prop}{c:Code}(J:Nat->Act->World->Prop)
  (round: ∀k a w,J k a w->c.wpIn F n P (Exit.then (λa' w'=> ∃k',k'<k/\J k' a' w') R) a w) {k:Nat} {a:Act} {w:World} (h0:J k a w):(Code.loop c).wpIn F n P R a w:=by
 intro b kk cs Jn hb hr
 have key: ∀j a w,J j a w-> ∃e a' w',R e a' w'/\ArrivesIn (Machine.fenced P F) P (lone (b.atR a (.code c::.inLoop c::kk)) cs w) b kk cs e a' w':=by
  intro j
  induction j using Nat.strongRecOn with
  |_ j ih=>
   intro a w hI
   obtain⟨e,wN,wO,hq,sK⟩:=round j a w hI b (.inLoop c::kk) cs Jn hb hr
   cases e with
   |normal=>
    obtain⟨k',gq,Ve⟩:=hq
    obtain⟨Ze,Zf,Zg,Vf,OP⟩:=ih k' gq wN wO Ve
    exact⟨Ze,Zf,Zg,Vf,.of_steps (StepsIn.trans sK (.one (fenced_calm hb hr rfl) stepR_inLoop)) OP⟩
   |exit id=>exact⟨_,wN,wO,hq,.pass (x:=.inLoop c) rfl (λ_ _=>.inl (by simp)) sK⟩
   |goto l=>exact⟨_,wN,wO,hq,.pass (x:=.inLoop c) rfl (λ_ _=>.inl (by simp)) sK⟩
   |ret=>exact⟨_,wN,wO,hq,.pass (x:=.inLoop c) rfl (λ_ _=>.inl (by simp)) sK⟩
   |panic ch=>exact⟨_,wN,wO,hq,.pass (x:=.inLoop c) rfl (λ_ _=>.inl (by simp)) sK⟩
   |outgrown=>exact⟨_,wN,wO,hq,.pass (x:=.inLoop c) rfl (λ_ _=>.inl (by simp)) sK⟩
 obtain⟨e,a',w',hq,sK⟩:=key k a w h0
 exact⟨e,a',w',hq,.of_steps (.one (fenced_calm hb hr rfl) stepR_loop) sK⟩
theorem DH{G:cg}{v:Value}{x:AV}(h:xO v=some x):V G x v:=by
 unfold xO at h
 split at h<;>cases h
 ·exact .bool _
 ·exact .int _ _
 ·exact .str _
 ·exact .iE
 ·exact .mV
 ·exact .slnil _ _ _ (λ_=>rfl) (λ_=>rfl)
theorem AO{G:cg}: ∀{l:List Value}{xs:List AV},tD l=some xs->xs.length=l.length/\ ∀(i:Nat)x y,xs[i]? =some x->l[i]? =some y->V G x y
 | [],xs,h=>by simp[tD]at h;subst h;simp
 |v::r,xs,h=>by
  simp only[tD]at h
  split at h
  ·rename_i x l h1 h2
   cases h
   obtain⟨e1,e2⟩:=AO (G:=G) h2
   refine⟨by simp[e1],λi a b ha hb=>?_⟩
   cases i with
   |zero=>simp at ha hb;subst ha;subst hb;exact DH h1
   |succ i=>exact e2 i a b (by simpa using ha) (by simpa using hb)
  ·cases h
theorem qS{G:cg}{v:Value}{x:AV}(h:ofValue v=some x):V G x v:=by
 unfold ofValue at h
 split at h
 ·rename_i cs
  split at h
  ·rename_i l hl
   cases h
   obtain⟨e1,e2⟩:=AO (G:=G) hl
   exact .agg _ _ (by simpa using e1) λi a b ha hb=>e2 i a b ha (by simpa using hb)
  ·cases h
 ·exact DH h
theorem eM{G:cg}{a:Act}(he:jm G bI a.tmps){o:Operand}{x:AV}(h:oper bI o=some x):V G x (a.eval o):=by
 cases o with
 |tmp t=>exact(he t x h).2
 |const v=>exact qS h
 |func f=>cases h;exact .fn f [] #[] rfl (by simp)
 |global g=>cases h
theorem qT{G:cg}{a:Act}(he:jm G bI a.tmps): ∀{l:List Operand}{xs:List AV},opers bI l=some xs->
  xs.length=l.length/\ ∀(i:Nat)x y,xs[i]? =some x->(l.map a.eval)[i]? =some y->V G x y
 | [],xs,h=>by simp[opers]at h;subst h;simp
 |o::r,xs,h=>by
  simp only[opers]at h
  split at h
  ·rename_i x l h1 h2
   cases h
   obtain⟨e1,e2⟩:=qT he h2
   refine⟨by simp[e1],λi a b ha hb=>?_⟩
   cases i with
   |zero=>simp at ha hb;subst ha;subst hb;exact eM he h1
   |succ i=>exact e2 i a b (by simpa using ha) (by simpa using hb)
  ·cases h
theorem tG{G:cg}{a:Act}(he:jm G bI a.tmps){l:Array Operand}{xs:List AV}(h:opers bI l.toList=some xs):VL G xs (l.map a.eval):=by
 obtain⟨e1,e2⟩:=qT he h
 exact⟨by simpa using e1,λi x y hx hy=>e2 i x y hx (by simpa using hy)⟩
theorem DJ{c:Operand}{x y:Code}{b:Bool}(hc:oper bI c=some (.bool b))(ht:b=true->lT P N ρ x Q bI s)(hf:b=false->lT P N ρ y Q bI s):
  lT P N ρ (.cond c x y) Q bI s:=λG w a hn=>by
 have hv:=eM hn.bI hc
 generalize hq:a.eval c=v at hv
 cases hv
 exact wpIn_cond_split hq (λe=>ht e G w a hn) (λe=>hf e G w a hn)
theorem jm.sub{G:cg}{bI env':Env}{tmps:Array Value}(h:jm G bI tmps)(hs: ∀t x,bH env' t=some x->bH bI t=some x):jm G env' tmps:=λt x hx=>h t x (hs t x hx)
theorem oM.drop{G:cg}{s s':St}(hd: ∀id,bH s.heap id=some .gr->bH s'.heap id=some .gr): ∀{ds:List Deferred},oM G s ds->oM G s' ds
 | [],_=>trivial
 |_::_,⟨⟨id,r,a,b,c,d⟩,hr⟩=>⟨⟨id,r,hd id a,b,c,d⟩,oM.drop hd hr⟩
end
end Go.Am
end
section
namespace Go.Am
open Go.RowKit
section
variable {P:Program} {G:cg} {s s':St} {w:World}
def tu(P:Program)(G:cg)(s:St)(w:World)(OQ:Sem Value)(x:AV)(s':St):Prop:=
 ∃v G' w',OQ.run P w=.ok v w'/\V G' x v/\eL G' s' w'/\Ext G s w G' s' w'
theorem dN(hs:eL G s w){OQ:Sem Value}{x:AV}{v:Value}(hr:OQ.run P w=.ok v w)(hv:V G x v):tu P G s w OQ x s:=⟨v,G,w,hr,hv,hs,.refl _ _ _⟩
theorem ib{t:TypeId}{i:TypeInfo}(h:P.info? t=some i)(w:World):(typeInfo t).run P w=.ok i w:=by simp[typeInfo,h]
theorem mF{t n:Nat}(h:dr P t=some n): ∃i,P.info? t=some i/\i.size=n:=by
 unfold dr at h
 cases hi:P.info? t with
 |none=>simp[hi]at h
 |some i=>simp[hi]at h;exact⟨i,rfl,h⟩
theorem qd{t n:Nat}(h:oK P t=some n): ∃i,P.info? t=some i/\i.bytes=n:=by
 unfold oK at h
 cases hi:P.info? t with
 |none=>simp[hi]at h
 |some i=>simp[hi]at h;exact⟨i,rfl,h⟩
theorem eo{t n:Nat}(h:dr P t=some n)(w:World):(sizeOf t).run P w=.ok n w:=by
 obtain⟨i,hi,rfl⟩:=mF h
 simp[sizeOf,ib hi]
theorem tH{t:Nat}{b:Bool}(h:KZ P t=some b)(w:World):(isAgg t).run P w=.ok b w:=by
 unfold KZ at h
 cases hu:P.underlying t with
 |none=>simp[hu]at h
 |some d=>
  simp only[hu,gy,Option.some.injEq]at h
  simp only[isAgg,Sem.run_bind,run_underlying hu,Result.andThen_ok]
  cases d<;>simp_all
theorem ke{t:Nat}{x:AV}(h:jB P t=some x)(w:World)(G:cg): ∃v,(zeroValue t).run P w=.ok v w/\V G x v:=by
 unfold jB at h
 cases hi:P.info? t with
 |none=>simp[hi]at h
 |some i=>
  cases hz:i.zero with
  |none=>simp[hi,hz]at h
  |some v=>
   simp[hi,hz]at h
   exact⟨v,by simp[zeroValue,ib hi,hz],qS h⟩
theorem fD{t e:Nat}(h:eh P t=some e):P.underlying t=some (.slice e):=by
 unfold eh at h
 split at h<;>simp_all
theorem B0{t n e:Nat}(h:wJ P t=some (n,e)):P.underlying t=some (.array n e):=by
 unfold wJ at h
 split at h<;>simp_all
theorem B2{t:Nat}(h:wK P t=true):P.underlying t=some .string:=by
 unfold wK at h
 split at h<;>simp_all
theorem K6{t:Nat}{k:IntKind}(h:FV P t=some k):P.underlying t=some (.int k):=by
 unfold FV at h
 split at h<;>simp_all
theorem xT{t i off n:Nat}(h:nr P t i=some (off,n)): ∃fs f,P.underlying t=some (.struct fs)/\fs[i]? =some f/\f.offset=off/\dr P f.type=some n:=by
 unfold nr at h
 split at h
 ·rename_i fs hu
  split at h
  ·rename_i f hf
   split at h
   ·rename_i m hm
    cases h;exact⟨fs,f,hu,hf,rfl,hm⟩
   ·cases h
  ·cases h
 ·cases h
def qe(G:cg)(w:World)(b o:Nat)(cs:List AV):Prop:= ∀k x,cs[k]? =some x-> ∃v,w.cell? ⟨b,o+k,none⟩=some v/\V G x v
theorem eL.there(hs:eL G s w){id el off cB:Nat}{elems:List AV}{e:AV}{r:uW}(hg:bH s.heap id=some (.cells cB elems))(ho:G.own id=some r)(he:elems[el]? =some e):
  qe G w r.block (r.bR+el*r.cB+off) (e.cells.drop off):=by
 obtain⟨o,e2,e3⟩:=hs.at hg ho
 cases e3 with
 |cells _ _ cs ty eC ee h0 iM jz eZ hV=>
  intro k x hx
  rw[KS]at hx
  obtain⟨v,hv,pV⟩:=hV _ x (oI iM he (off+k) x hx)
  refine⟨v,?_,pV⟩
  subst ee
  simp only[World.cell?,e2]
  rw[show r.bR+el*r.cB+off+k=r.bR+(el*r.cB+(off+k))from by omega]
  simpa using hv
theorem su(hs:eL G s w){p:AV}{pv:Value}(hp:V G p pv){cs:List AV}(h:na s p=some cs): ∃b o,pv=.pointer (some ⟨b,o,none⟩)/\qe G w b o cs:=by
 cases hp with
 |mp id el off r ho=>
  simp only[na]at h
  split at h
  ·rename_i cB elems hg
   split at h
   ·rename_i e he
    cases h
    exact⟨_,_,rfl,hs.there hg ho he⟩
   ·cases h
  ·cases h
 |ip cells b off val gS hV=>
  cases h
  refine⟨b,off,rfl,λk x hx=>⟨val k,hs.gP _ _ _ (gS k (fP.1 hx).1),hV k x hx⟩⟩
 |_=>simp[na]at h
theorem nu(b o n:Nat):(⟨b,o,none⟩:Addr).add n=⟨b,o+n,none⟩:=by unfold Addr.add;split<;>simp_all
theorem qe.loadCells{b o n:Nat}{cs:List AV}(h:qe G w b o cs)(hn:n<=cs.length): ∃vs:Array Value,(loadCells ⟨b,o,none⟩ n).run P w=.ok vs w/\VL G (cs.take n) vs:=by
 refine⟨((List.range n).map λj=>(w.cell? ⟨b,o+j,none⟩).getD undef).toArray,?_,?_⟩
 ·refine run_loadCells w _ n _ λj hj=>?_
  rw[nu]
  have hl:j<cs.length:=by omega
  obtain⟨v,hv,_⟩:=h j cs[j] (dH hl)
  simp[hv]
 ·refine⟨by simp;omega,λi x y hx hy=>?_⟩
  have hi:i<n:=by
   have:=(fP.1 hx).1
   simp at this;omega
  rw[Uf,dD hi]at hx
  obtain⟨v,hv,hV⟩:=h i x hx
  simp[hi,hv]at hy
  subst hy;exact hV
theorem qe.read{b o t:Nat}{cs:List AV}{x:AV}(h:qe G w b o cs)(hr:qa P t cs=some x): ∃v,(loadVar t ⟨b,o,none⟩).run P w=.ok v w/\V G x v:=by
 unfold qa at hr
 split at hr
 ·rename_i ha
  split at hr
  ·rename_i n hn
   split at hr
   ·rename_i eE
    cases hr
    obtain⟨vs,e1,e2⟩:=h.loadCells (P:=P) eE
    exact⟨.agg vs,by simp[loadVar,tH ha,eo hn,e1],.agg _ _ e2.1 e2.2⟩
   ·cases hr
  ·cases hr
 ·rename_i ha
  split at hr
  ·rename_i y l
   cases hr
   obtain⟨v,e1,e2⟩:=h 0 x rfl
   refine⟨v,?_,e2⟩
   simp only[Dl]at e1
   simp[loadVar,tH ha,e1]
  ·cases hr
 ·cases hr
theorem oO{t off:Nat}{cs:List AV}{vs:Array Value}{x:AV}(h:VL G cs vs)(hr:qa P t (cs.drop off)=some x): ∃v,(part t vs off).run P w=.ok v w/\V G x v:=by
 unfold qa at hr
 split at hr
 ·rename_i ha
  split at hr
  ·rename_i n hn
   split at hr
   ·rename_i eE
    cases hr
    refine⟨.agg (vs.extract off (off+n)),by simp[part,tH ha,eo hn],.agg _ _ ?_ ?_⟩
    ·have:=h.1
     simp at eE |-
     omega
    ·intro i a b K9 hb
     have hi:i<n:=by
      have:=(fP.1 K9).1
      simp at this;omega
     rw[Uf,dD hi,KS]at K9
     rw[Array.getElem?_extract]at hb
     split at hb
     ·exact h.2 _ _ _ K9 hb
     ·cases hb
   ·cases hr
  ·cases hr
 ·rename_i ha
  split at hr
  ·rename_i y l heq
   cases hr
   have hx:cs[off]? =some x:=by
    have:=fA (λl:List AV=>l[0]?) heq
    simpa[KS]using this
   obtain⟨v,e1,e2⟩:=h.get hx
   refine⟨v,?_,e2⟩
   simp[part,tH ha,e1]
  ·cases hr
 ·cases hr
theorem La(hs:eL G s w){t:TypeId}{p x:AV}{pv:Value}(hp:V G p pv)(h:pJ P t p s=some x):tu P G s w (Instr.loadAt t pv) x s:=by
 unfold pJ at h
 split at h
 ·rename_i cs hc
  obtain⟨b,o,rfl,ht⟩:=su hs hp hc
  obtain⟨v,e1,e2⟩:=ht.read (P:=P) h
  exact dN hs (by simp[Instr.loadAt,Instr.sureAddr,e1]) e2
 ·cases h
theorem VL.length{cs:List AV}{vs:Array Value}(h:VL G cs vs):cs.length=vs.size:=h.1
theorem HC(hs:eL G s w){t:TypeId}{x y:AV}{v:Value}(hv:V G x v)(h:BX x s=some (y,s')):tu P G s w (Instr.box t v) y s':=by
 unfold BX at h
 split at h
 ·rename_i hc
  cases h
  have hx:x≠ .any:=λe=>by subst e;simp[AV.cells,AV.cX]at hc
  have hl:=VL.cells hv hx
  obtain⟨h1,h2⟩:=hs.put (o:=.cells v.cells t) (blk:=.cells x.cells.length [x]) (r:=⟨w.heap.size,0,x.cells.length,v.cells.size⟩) rfl
   (.cells _ _ _ _ rfl rfl hc.1 (by simp) (by simpa[dn]using hc.2) (by simp[hl.1]) λk z hz=>by
    simp[dn]at hz
    obtain⟨u,e1,e2⟩:=hl.get hz
    exact⟨u,by simpa using e1,e2.mono (.put (hs.ct _ (eF _)))⟩)
  refine⟨.pointer (some ⟨w.heap.size,0,none⟩),_,_,?_,?_,h1,h2⟩
  ·simp[Instr.box,newVar,newRow]
  ·have:=V.mp (G:=G.put s.bT ⟨w.heap.size,0,x.cells.length,v.cells.size⟩) s.bT 0 0 _ (by simp[cg.put];rfl)
   simpa using this
 ·cases h
theorem Jo(hs:eL G s w){t:TypeId}{z y:AV}(hz:jB P t=some z)(h:BX z s=some (y,s')):tu P G s w (Instr.alloc t true (.tuple #[])) y s':=by
 obtain⟨v,e1,e2⟩:=ke hz w G
 obtain⟨u,G',w',e3,e4⟩:=HC (P:=P) (t:=t) hs e2 h
 refine⟨u,G',w',?_,e4⟩
 simp only[Instr.alloc,Sem.run_bind,e1,Result.andThen_ok]
 simpa[Instr.box]using e3
theorem cells_one{x:AV}(h:x.cX=true):x.cells=[x]:=by
 cases x<;>first|rfl|(simp[AV.cX]at h)
theorem xU: ∀{l:List AV},l.all AV.cX=true->dn l=l
 | [],_=>rfl
 |x::l,h=>by
  simp only[Xt,fi]at h
  simp only[dn,FQ,cells_one h.1]
  exact fA (x:: ·) (xU h.2)
theorem F0(hs:eL G s w){t:TypeId}{z y:AV}(hz:jB P t=some z)(h:DF z s=some (y,s')):tu P G s w (Instr.alloc t true (.tuple #[])) y s':=by
 obtain⟨v,e1,hv⟩:=ke hz w G
 unfold DF at h
 split at h
 ·rename_i hc
  cases h
  have hx:z≠ .any:=λe=>by subst e;simp[AV.cells,AV.cX]at hc
  have hl:=VL.cells hv hx
  obtain⟨h1,h2⟩:=hs.put (o:=.cells v.cells t) (blk:=.cells 1 z.cells) (r:=⟨w.heap.size,0,1,v.cells.size⟩) rfl
   (.cells _ _ _ _ rfl rfl (by omega) (λe he=>by rw[cells_one (pT.1 hc.2 e he)];rfl) (by rw[xU hc.2];exact pT.1 hc.2) (by simp[hl.1]) λk x hx=>by
    rw[xU hc.2]at hx
    obtain⟨u,e1,e2⟩:=hl.get hx
    exact⟨u,by simpa using e1,e2.mono (.put (hs.ct _ (eF _)))⟩)
  refine⟨.pointer (some ⟨w.heap.size,0,none⟩),_,_,?_,?_,h1,h2⟩
  ·simp only[Instr.alloc,Sem.run_bind,e1,Result.andThen_ok]
   simp[newVar,newRow]
  ·have:=V.mp (G:=G.put s.bT ⟨w.heap.size,0,1,v.cells.size⟩) s.bT 0 0 _ (by simp[cg.put];rfl)
   simpa using this
 ·cases h
theorem V.OR{x:AV}{v:Value}(h:V G x v)(hx:x.cX=true):v.oneCell'=true:=by
 cases h<;>simp_all[AV.cX,Value.oneCell']
theorem pK(l:List AV)(k:Nat)(new:List AV)(i:Nat)(h:k+new.length<=l.length):
  (jC l k new)[i]? =if i<k then l[i]? else if i<k+new.length then new[i-k]? else l[i]?:=by
 unfold jC
 by_cases h1:i<k
 ·rw[np (by simp;omega),dD h1,Uf,dD h1]
 ·rw[pG (by simp;omega),dM h1]
  simp only[DB,show min k l.length=k from by omega]
  by_cases h2:i<k+new.length
  ·rw[dD h2,np (by omega)]
  ·rw[dM h2,pG (by omega),KS]
   congr 1;omega
theorem nv(l:List AV)(k:Nat)(new:List AV)(h:k+new.length<=l.length):(jC l k new).length=l.length:=by
 simp[jC];omega
theorem lu(Um:Array Value)(k:Nat)(new:List Value)(i:Nat)(h:k+new.length<=Um.size):
  ((Um.toList.take k++new++Um.toList.drop (k+new.length)).toArray)[i]? =if i<k then Um[i]? else if i<k+new.length then new[i-k]? else Um[i]?:=by
 simp only[List.getElem?_toArray]
 by_cases h1:i<k
 ·rw[DC,np (by simp;omega),dD h1,Uf,dD h1];simp
 ·rw[DC,pG (by simp;omega),dM h1]
  simp only[DB,FR,show min k Um.size=k from by omega]
  by_cases h2:i<k+new.length
  ·rw[dD h2,np (by omega)]
  ·rw[dM h2,pG (by omega),KS]
   simp
   congr 1;omega
theorem B3(e:AV)(cs:List AV)(h:cs.length=e.cells.length)(hs: ∀x∈cs,x.cX=true):(qb e cs).cells=cs:=by
 have one:e.cells=[e]->(∀l,qb e l=match l with|x::_=>x| []=>.any)->(qb e cs).cells=cs:=λh1 h2=>by
  rw[h1]at h
  match cs,h with
  | [x],_=>
   have:=hs x (by simp)
   rw[h2]
   cases x<;>simp_all[AV.cells,AV.cX]
 cases e with
 |agg l=>rfl
 |_=>exact one rfl λ_=>rfl
theorem setRow_other(w:World)(g:Nat)(cs:Array Value)(b:Nat)(h:b≠g):(w.setRow g cs).heap[b]? =w.heap[b]?:=by
 simp only[World.setRow,Array.getElem?_modify]
 rw[dM (by omega)]
theorem xV(hs:eL G s w){id cB:Nat}{elems elems':List AV}{r:uW}{cs:Array Value}{ty:TypeId}(hg:bH s.heap id=some (.cells cB elems))(ho:G.own id=some r)
  (hw:w.heap[r.block]? =some (.cells cs ty (0,0))) {cs':Array Value} (eC:cs'.size=r.size) (ee:r.cB=cB) (h0:0<cB) (iM: ∀x∈elems',x.cells.length=cB)
  (jz: ∀x∈dn elems',x.cX=true) (eZ:r.bR+elems'.length*cB<=r.size) (hV: ∀k x,(dn elems')[k]? =some x-> ∃v,cs'[r.bR+k]? =some v/\V G x v):
  eL G ⟨eg s.heap id (.cells cB elems'),s.bT⟩ (w.setRow r.block cs')/\Ext G s w G ⟨eg s.heap id (.cells cB elems'),s.bT⟩ (w.setRow r.block cs'):=
 hs.turn hg ho (by simp[World.setRow]) rfl rfl rfl (λb hb=>setRow_other w _ _ _ hb) (setRow_heap w _ cs cs' ty _ hw) (.cells cB elems' cs' ty eC ee h0 iM jz eZ hV) (by simp)
end
end Go.Am
end
section
namespace Go.Am
open Go.RowKit
section
variable {P:Program} {G:cg} {s s':St} {w:World}
theorem kf{l:List AV}(h:l.all AV.cX=true): ∀x∈l,x.cX=true:=by simpa using h
theorem mh{x:AV}(h:x.cells.all AV.cX=true):x≠ .any:=λe=>by subst e;simp[AV.cells,AV.cX]at h
theorem VL.tI{cs:List AV}{vs:Array Value}(h:VL G cs vs)(hs: ∀x∈cs,x.cX=true): ∀v∈vs.toList,v.oneCell'=true:=by
 intro v hv
 obtain⟨i,hi,rfl⟩:=pH hv
 have AP:i<cs.length:=by rw[h.1];simpa using hi
 exact(h.2 i cs[i] _ (dH AP) (by simp)).OR (hs _ (va AP))
theorem F1{k e m:Nat}(h0:0<m)(h:k / m=e):e*m<=k/\k<e*m+m/\k%m=k-e*m:=by
 subst h
 have h1:=Xs k m
 have h2:=Nat.mod_lt k h0
 rw[RI]at h1
 omega
theorem Lb{elems:List AV}{el:Nat}{e:AV}(y:AV){i:Nat}{z:AV}(he:elems[el]? =some e)(h:(elems.set el y)[i]? =some z):(i=el/\z=y)\/(i≠el/\elems[i]? =some z):=by
 rw[Xu]at h
 have hl:=(fP.1 he).1
 split at h
 ·rename_i hi
  subst hi
  cases h;exact .inl ⟨rfl,rfl⟩
 ·rename_i hi
  exact .inr ⟨λe=>hi e.symm,h⟩
theorem Jp(hs:eL G s w){t:TypeId}{p x:AV}{pv v:Value}(hp:V G p pv)(hx:V G x v)(h:xP P t p x s=some s'):
  ∃w',(Instr.storeAt t pv v).run P w=.ok () w'/\eL G s' w'/\Ext G s w G s' w':=by
 unfold xP at h
 split at h
 case h_2=>cases h
 rename_i id el off
 split at h
 case h_2=>cases h
 rename_i cB elems hg
 split at h
 case h_2=>cases h
 rename_i e he
 split at h
 case isFalse=>cases h
 rename_i hc
 obtain⟨eC,eE,iP⟩:=hc
 cases h
 cases hp with
 |mp _ _ _ r ho=>
  have hl:=VL.cells hx (mh iP)
  have Vg:=kf iP
  obtain⟨o,e2,e3⟩:=hs.at hg ho
  cases e3 with
  |cells _ _ cs ty tK ee h0 iM jz eZ hV=>
   have Zh:el<elems.length:=(fP.1 he).1
   have Zi:e.cells.length=cB:=iM e (gz he)
   have hmul:(el+1)*cB<=elems.length*cB:=Aa _ Zh
   rw[uV]at hmul
   have dA:v.cells.toList.length=x.cells.length:=by simp[hl.1]
   have oP:r.bR+el*cB+off+0+v.cells.toList.length<=cs.size:=by rw[dA,tK];omega
   have fB:=run_storeCells_at P r.block (r.bR+el*cB+off) ty v.cells.toList 0 cs w e2 oP (hl.tI Vg)
   simp only[Dl]at fB oP
   have z8:(jC e.cells off x.cells).length=e.cells.length:=nv _ _ _ (by omega)
   have QA: ∀z∈jC e.cells off x.cells,z.cX=true:=by
    intro z hz
    simp only[jC,lr]at hz
    have hec: ∀z∈e.cells,z.cX=true:=λz hz=>jz z (by rw[dn,sF];exact⟨e,gz he,hz⟩)
    rcases hz with hz|hz|hz
    ·exact hec z (xK hz)
    ·exact Vg z hz
    ·exact hec z (Hv hz)
   have Zj:=B3 e (jC e.cells off x.cells) z8 QA
   have Jq: ∀y∈elems.set el (qb e (jC e.cells off x.cells)),y.cells.length=cB:=by
    intro y hy
    rcases Xv hy with hy|rfl
    ·exact iM y hy
    ·rw[Zj,z8,Zi]
   have OS: ∀k z,(dn (elems.set el (qb e (jC e.cells off x.cells))))[k]? =some z->
     ∃u,((cs.toList.take (r.bR+el*cB+off)++v.cells.toList++cs.toList.drop (r.bR+el*cB+off+v.cells.toList.length)).toArray)[r.bR+k]? =some u/\V G z u:=by
    intro k z hz
    obtain⟨y,hy,OT⟩:=xN Jq h0 hz
    rw[lu _ _ _ _ oP,dA]
    rcases Lb _ he hy with⟨hi,rfl⟩|⟨hi,On⟩
    ·obtain⟨m1,m2,m3⟩:=F1 h0 hi
     rw[Zj,pK _ _ _ _ (by omega),m3]at OT
     by_cases c1:r.bR+k<r.bR+el*cB+off
     ·rw[dD c1]
      rw[dD (by omega)]at OT
      have:=oI iM he (k-el*cB) z OT
      rw[show el*cB+(k-el*cB)=k from by omega]at this
      exact hV k z this
     ·rw[dM c1]
      rw[dM (by omega)]at OT
      by_cases c2:r.bR+k<r.bR+el*cB+off+x.cells.length
      ·rw[dD c2]
       rw[dD (by omega)]at OT
       obtain⟨u,e1,e2⟩:=hl.get OT
       refine⟨u,?_,e2⟩
       rw[show r.bR+k-(r.bR+el*cB+off)=k-el*cB-off from by omega]
       simpa using e1
      ·rw[dM c2]
       rw[dM (by omega)]at OT
       have:=oI iM he (k-el*cB) z OT
       rw[show el*cB+(k-el*cB)=k from by omega]at this
       exact hV k z this
    ·have hk:=oI iM On (k%cB) z OT
     rw[RI,Xs]at hk
     have eV: ¬(el*cB+off<=k/\k<el*cB+off+x.cells.length):=λ⟨a,b⟩=>hi (by
      have:k / cB=el:=Nat.div_eq_of_lt_le (by omega) (by rw[uV];omega)
      exact this)
     by_cases c1:r.bR+k<r.bR+el*cB+off
     ·rw[dD c1];exact hV k z hk
     ·rw[dM c1,dM (by omega)];exact hV k z hk
   have RW: ∀z∈dn (elems.set el (qb e (jC e.cells off x.cells))),z.cX=true:=by
    intro z hz
    rw[dn,sF]at hz
    obtain⟨y,hy,hz⟩:=hz
    rcases Xv hy with hy|rfl
    ·exact jz z (by rw[dn,sF];exact⟨y,hy,hz⟩)
    ·rw[Zj]at hz;exact QA z hz
   obtain⟨q1,q2⟩:=xV hs hg ho e2 (cs':=(cs.toList.take (r.bR+el*cB+off)++v.cells.toList++cs.toList.drop (r.bR+el*cB+off+v.cells.toList.length)).toArray)
    (by simp only[U0,jW,DB,Ug,FR]at oP |-;omega) ee h0 Jq RW (by simpa using eZ) OS
   refine⟨_,?_,q1,q2⟩
   subst ee
   have Zk:(sizeOf t).run P w=.ok v.cells.size w:=by rw[eo eC,hl.1]
   simp[Instr.storeAt,Instr.sureAddr,storeVar,Zk,fB]
theorem Ae{t:TypeId}{p x:AV}{i:Nat}{pv:Value}(hs:eL G s w)(hp:V G p pv)(h:xQ P t p i=some x):tu P G s w (Instr.fieldAt t pv i) x s:=by
 unfold xQ at h
 split at h
 case h_2=>cases h
 rename_i off n hf
 obtain⟨fs,f,hu,Un,Lc,hn⟩:=xT hf
 split at h
 ·cases h
 ·rename_i RX
  have run: ∀b o,pv=.pointer (some ⟨b,o,none⟩)->(Instr.fieldAt t pv i).run P w=.ok (.pointer (some ⟨b,o+off,none⟩)) w:=λb o e=>by
   subst e
   simp[Instr.fieldAt,run_underlying hu,Un,Instr.sureAddr,fieldPlace,eo hn,RX,nu,Lc]
  split at h
  ·cases h
   cases hp with
   |mp id el o r ho=>exact dN hs (run _ _ rfl) (by rw[Dk];exact .mp _ _ _ r ho)
  ·cases h
   cases hp with
   |ip cells b o val gS hV=>
    refine dN hs (run _ _ rfl) (.ip _ b (o+off) (λk=>val (off+k)) (λk hk=>?_) λk x hx=>?_)
    ·rw[Dk];exact gS _ (by simp at hk;omega)
    ·rw[KS]at hx;exact hV _ x hx
  ·cases h
theorem Jr{t:TypeId}{p x:AV}{i:Nat}{pv:Value}(hs:eL G s w)(hp:V G p pv)(h:tF P t p i=some x):tu P G s w (Instr.field t pv i) x s:=by
 unfold tF at h
 split at h
 case h_2=>cases h
 rename_i off n ft hf Vh
 obtain⟨fs,f,hu,Un,Lc,hn⟩:=xT hf
 have Zl:f.type=ft:=by
  unfold BW at Vh
  rw[hu]at Vh
  simp[Un]at Vh
  exact Vh
 unfold K0 at h
 split at h
 case h_2=>cases h
 rename_i cs
 cases hp with
 |agg _ vs dA hh=>
  subst Lc;subst Zl
  obtain⟨v,e1,e2⟩:=oO (P:=P) (w:=w) ⟨dA,hh⟩ h
  exact dN hs (by simp[Instr.field,run_underlying hu,Un,asAgg,e1]) e2
theorem V.qf{full:Bool}{elems:List AV}{v:Value}(h:V G (.sl full elems) v): ∃bR cap,v=.slice bR elems.length cap/\elems.length<=cap/\(full=true->cap=elems.length)/\
  (bR=none->cap=0)/\(elems=[]\/ ∃(b off cB:Nat)(val:Nat->Value),bR=some ⟨b,off,none⟩/\(∀e∈elems,e.cells.length=cB)/\(∀x∈dn elems,x.cX=true)/\
   (∀k,k<elems.length*cB->G.gP b (off+k)=some (val k))/\ ∀k x,(dn elems)[k]? =some x->V G x (val k)):=by
 cases h with
 |slnil full bR cap hf hb=>exact⟨bR,cap,rfl,AK _,λe=>hf e,hb,.inl rfl⟩
 |sl _ _ b off cB cap val jY jS ee jz gS hV=>exact⟨_,cap,rfl,jY,jS,(λe=>by cases e),.inr ⟨b,off,cB,val,rfl,ee,jz,gS,hV⟩⟩
theorem Js(hs:eL G s w){elems:List AV}{b off cB:Nat}{val:Nat->Value}(ee: ∀e∈elems,e.cells.length=cB)(gS: ∀k,k<elems.length*cB->G.gP b (off+k)=some (val k))
  (hV: ∀k x,(dn elems)[k]? =some x->V G x (val k)):qe G w b off (dn elems):=λk x hx=>by
 have hk:k<elems.length*cB:=by rw[<-dF ee];exact(fP.1 hx).1
 exact⟨val k,hs.gP _ _ _ (gS k hk),hV k x hx⟩
theorem Af{t:TypeId}{p i x:AV}{pv iv:Value}(hs:eL G s w)(hp:V G p pv)(hi:V G i iv)(h:eX P t p i s=some x):tu P G s w (Instr.indexAt t pv iv) x s:=by
 unfold eX at h
 split at h
 case h_2=>cases h
 rename_i kd n
 cases hi
 split at h
 ·rename_i e he
  have hu:=fD he
  split at h
  ·rename_i full elems
   split at h
   case isFalse=>cases h
   rename_i hn
   split at h
   case h_2=>cases h
   rename_i y hy
   split at h
   case isFalse=>cases h
   rename_i eC
   cases h
   obtain⟨bR,cap,rfl,eE,_,_,hz⟩:=V.qf hp
   have gq:n.toNat<elems.length:=(fP.1 hy).1
   rcases hz with rfl|⟨b,off,cB,val,rfl,ee,_,gS,hV⟩
   ·simp at hy
   ·have hye:y.cells.length=cB:=ee y (gz hy)
    have KD:n<(elems.length:Int):=by omega
    have hmul:(n.toNat+1)*cB<=elems.length*cB:=Aa _ gq
    rw[uV]at hmul
    refine dN hs (v:=.pointer (some ⟨b,off+n.toNat*cB,none⟩)) ?_ (.ip _ _ _ (λk=>val (n.toNat*cB+k)) (λk hk=>?_) λk z hz=>?_)
    ·rw[hye]at eC
     simp[Instr.indexAt,asIntOf,run_underlying hu,hn,KD,eo eC,nu]
    ·rw[Dk];exact gS _ (by omega)
    ·exact hV _ z (oI ee hy k z hz)
  ·rename_i id bL len
   split at h
   case h_2=>cases h
   rename_i cB elems hg
   split at h
   case isFalse=>cases h
   rename_i hc
   obtain⟨h1,h2,h3⟩:=hc
   cases h
   cases hp with
   |gC _ _ _ _ _=>omega
   |ms _ _ _ cap r addr ho eE eZ gA=>
    obtain⟨o,e2,e3⟩:=hs.at hg ho
    cases e3 with
    |cells _ _ cs ty tK ee h0 iM jz DK hV=>
     have jY:0<cap:=by omega
     rw[gA jY]
     refine dN hs (v:=.pointer (some ⟨r.block,r.bR+(bL+n.toNat)*r.cB+0,none⟩)) ?_ (.mp _ _ _ r ho)
     subst ee
     simp[Instr.indexAt,asIntOf,run_underlying hu,h1,h2,eo h3,nu,uV,Dk]
  ·cases h
 ·split at h
  case h_2=>cases h
  rename_i m e he
  have hu:=B0 he
  split at h
  case h_2=>cases h
  rename_i sz eC
  split at h
  case isFalse=>cases h
  rename_i hc
  obtain⟨h1,h2⟩:=hc
  have run: ∀b o,pv=.pointer (some ⟨b,o,none⟩)->(Instr.indexAt t pv (.int kd n)).run P w=.ok (.pointer (some ⟨b,o+n.toNat*sz,none⟩)) w:=λb o e=>by
   subst e
   simp[Instr.indexAt,asIntOf,run_underlying hu,Instr.sureAddr,h1,h2,eo eC,nu]
  split at h
  ·rename_i id el off
   cases hb:Nat.blt 8 m<;>rw[hb]at h
   ·cases h
    cases hp with
    |mp _ _ _ r ho=>exact dN hs (run _ _ rfl) (by rw[Dk];exact .mp _ _ _ r ho)
   ·simp only[cS]at h
    split at h
    case h_2=>cases h
    rename_i cB elems hg
    split at h
    case isFalse=>cases h
    rename_i hq
    obtain⟨rfl,rfl⟩:=hq
    cases h
    cases hp with
    |mp _ _ _ r ho=>
     obtain⟨o,_,e3⟩:=hs.at hg ho
     cases e3 with
     |cells _ _ cs ty tK ee=>
      refine dN hs (run _ _ rfl) ?_
      have:=V.mp (G:=G) id (el+n.toNat) 0 r ho
      rw[ee,uV]at this
      rw[ee]
      simpa[Dk]using this
  ·cases h
   cases hp with
   |ip cells b o val gS hV=>
    refine dN hs (run _ _ rfl) (.ip _ b _ (λk=>val (n.toNat*sz+k)) (λk hk=>?_) λk x hx=>?_)
    ·rw[Dk];exact gS _ (by simp at hk;omega)
    ·rw[KS]at hx;exact hV _ x hx
  ·cases h
theorem Jt{t:TypeId}{p i x:AV}{pv iv:Value}(hs:eL G s w)(hp:V G p pv)(hi:V G i iv)(h:sJ P t p i=some x):tu P G s w (Instr.index t pv iv) x s:=by
 unfold sJ at h
 split at h
 case h_2=>cases h
 rename_i kd n
 cases hi
 split at h
 ·rename_i b
  split at h
  case isFalse=>cases h
  rename_i hc
  split at h
  case h_2=>cases h
  rename_i c hb
  cases h
  cases hp
  exact dN hs (by simp[Instr.index,asIntOf,run_underlying (B2 hc.1),hc.2,hb]) (.int _ _)
 ·rename_i cs
  split at h
  case h_2=>cases h
  rename_i m e he
  have hu:=B0 he
  split at h
  case h_2=>cases h
  rename_i sz eC
  split at h
  case isFalse=>cases h
  rename_i hc
  cases hp with
  |agg _ vs dA hh=>
   obtain⟨v,e1,e2⟩:=oO (P:=P) (w:=w) ⟨dA,hh⟩ h
   exact dN hs (by simp[Instr.index,asIntOf,run_underlying hu,hc,eo eC,e1]) e2
 ·cases h
end
end Go.Am
end
section
namespace Go.Am
open Go.RowKit
section
variable {P:Program} {G:cg} {s s':St} {w:World} {bI:Env} {a:Act}
theorem mG(he:jm G bI a.tmps){x:Option Operand}{d l:Nat}(h:gl bI x d=some l):
  (x=none/\l=d)\/ ∃k n,x.map a.eval=some (.int k n)/\0<=n/\n.toNat=l:=by
 unfold gl at h
 split at h
 ·cases h;exact .inl ⟨rfl,rfl⟩
 ·rename_i o
  split at h
  ·rename_i k n ho
   split at h
   ·rename_i hn
    cases h
    have hv:=eM he ho
    generalize hq:a.eval o=v at hv
    cases hv
    exact .inr ⟨k,n,by simp[hq],hn,rfl⟩
   ·cases h
  ·cases h
theorem jK{k:IntKind}{n:Int}{y:Nat}{c:BoundsCode}(h0:0<=n)(hy:n.toNat<=y)(w:World):(Instr.sliceBound (.int k n) y c).run P w=.ok n.toNat w:=by
 have:n<=(y:Int):=by omega
 simp[Instr.sliceBound,asIntOf,h0,this]
theorem iZ(he:jm G bI a.tmps){lo hi mx:Option Operand}{XM:Bool}{len cap l h m:Nat}(hl:gl bI lo 0=some l)(hh:gl bI hi len=some h)
  (hm:(mx=none/\m=cap)\/(mx.isSome=true/\hi.isSome=true/\gl bI mx cap=some m)) (h1:l<=h) (h2:h<=m) (h3:m<=cap) (h4:mx=none->h<=cap):
  (Instr.sliceBounds XM len cap (lo.map a.eval) (hi.map a.eval) (mx.map a.eval)).run P w=.ok (l,h,m) w:=by
 unfold Instr.sliceBounds
 rcases hm with⟨rfl,rfl⟩|⟨m1,m2,m3⟩
 ·rcases mG he hl with⟨rfl,rfl⟩|⟨k1,n1,e1,p1,rfl⟩<;>rcases mG he hh with⟨rfl,rfl⟩|⟨k2,n2,e2,p2,rfl⟩
  ·simp
  ·simp[e2,jK p2 (h4 rfl)]
  ·simp[e1,jK p1 h1]
  ·simp[e1,e2,jK p1 h1,jK p2 (h4 rfl)]
 ·rcases mG he m3 with⟨rfl,_⟩|⟨k3,n3,e3,p3,rfl⟩
  ·cases m1
  ·rcases mG he hl with⟨rfl,rfl⟩|⟨k1,n1,e1,p1,rfl⟩<;>rcases mG he hh with⟨rfl,rfl⟩|⟨k2,n2,e2,p2,rfl⟩
   ·cases m2
   ·simp[e2,e3,jK p2 h2,jK p3 h3]
   ·cases m2
   ·simp[e1,e2,e3,jK p1 h1,jK p2 h2,jK p3 h3]
theorem gX{elems:List AV}(n:Nat){x:AV}{cB:Nat}(ee: ∀e∈elems,e.cells.length=cB)(h0:0<cB){k l:Nat}(hx:(dn ((elems.take n).drop l))[k]? =some x):
  (dn elems)[l*cB+k]? =some x:=by
 have Zm: ∀e∈(elems.take n).drop l,e.cells.length=cB:=λe he=>ee e (xK (Hv he))
 obtain⟨e,he,hk⟩:=xN Zm h0 hx
 rw[KS,Uf]at he
 split at he
 ·have:=oI ee he _ _ hk
  rw[show(l+k / cB)*cB+k%cB=l*cB+k from by rw[uV,Dk];congr 1;rw[RI];exact Xs k cB]at this
  exact this
 ·cases he
theorem HD{e:TypeId}{elems:List AV}{cB:Nat}(hf: ∀y∈elems.head?,dr P e=some y.cells.length)(ee: ∀x∈elems,x.cells.length=cB)(eV:elems≠[]):dr P e=some cB:=by
 cases elems with
 |nil=>exact absurd rfl eV
 |cons x r=>rw[hf x (by simp),ee x (by simp)]
theorem DL(hs:eL G s w)(he:jm G bI a.tmps){t e:TypeId}{full HE:Bool}{elems:List AV}{pv:Value}(hp:V G (.sl full elems) pv)(hu:eh P t=some e)
  {lo hi mx:Option Operand} {l h:Nat} (hl:gl bI lo 0=some l) (hh:gl bI hi elems.length=some h) (h1:l<=h) (h2:h<=elems.length)
  (hf: ∀y∈elems.head?,dr P e=some y.cells.length) (eC:(dr P e).isSome=true)
  (hm:(mx=none/\HE=(full&&h==elems.length))\/ ∃m,mx.isSome=true/\hi.isSome=true/\(∀d,gl bI mx d=some m)/\h<=m/\m<=elems.length/\HE=(m==h)):
  tu P G s w (Instr.sliceAt t pv (lo.map a.eval) (hi.map a.eval) (mx.map a.eval)) (.sl HE ((elems.take h).drop l)) s:=by
 obtain⟨bR,cap,rfl,eE,jS,hb,hz⟩:=V.qf hp
 obtain⟨m,kz,QB,hmc,pZ⟩: ∃m,(Instr.sliceBounds true elems.length cap (lo.map a.eval) (hi.map a.eval) (mx.map a.eval)).run P w=.ok (l,h,m) w/\h<=m/\m<=cap/\(HE=true->m=h):=by
  rcases hm with⟨rfl,rfl⟩|⟨m,m1,m2,m3,m4,m5,rfl⟩
  ·refine⟨cap,iZ he hl hh (.inl ⟨rfl,rfl⟩) h1 (by omega) (eF _) (λ_=>by omega),by omega,eF _,λe=>?_⟩
   simp only[fi,beq_iff_eq]at e
   rw[jS e.1,e.2]
  ·exact⟨m,iZ he hl hh (.inr ⟨m1,m2,m3 _⟩) h1 m4 (by omega) (λe=>by subst e;cases m1),m4,by omega,λe=>by simpa using e⟩
 have dA:((elems.take h).drop l).length=h-l:=by simp;omega
 cases hq:dr P e with
 |none=>rw[hq]at eC;cases eC
 |some sz=>
  have run:(Instr.sliceAt t (.slice bR elems.length cap) (lo.map a.eval) (hi.map a.eval) (mx.map a.eval)).run P w=
    .ok (.slice (if m=l then bR else bR.map (·.add (l*sz))) (h-l) (m-l)) w:=by
   simp[Instr.sliceAt,Instr.slice,run_underlying (fD hu),kz,eo hq]
  refine dN hs run ?_
  by_cases eV:h=l
  ·subst eV
   have:(elems.take h).drop h=[]:=Kx (by omega)
   rw[this,Qs]
   exact .slnil _ _ _ (λe=>by have:=pZ e;omega) (λe=>by
    split at e
    ·omega
    ·cases bR with
     |none=>have:=hb rfl;omega
     |some a=>cases e)
  ·rcases hz with rfl|⟨b,off,cB,val,rfl,ee,jz,gS,hV⟩
   ·simp at h2;omega
   ·have mW:elems≠[]:=λe=>by subst e;simp at h2;omega
    have Ag:=HD hf ee mW
    rw[hq]at Ag;cases Ag
    rw[dM (by omega),<-dA]
    have h0:0<sz\/sz=0:=by omega
    simp only[gy,nu]
    refine .sl _ _ b _ sz _ (λk=>val (l*sz+k)) (by rw[dA];omega) (λe=>by rw[dA,pZ e]) (λx hx=>ee x (xK (Hv hx)))
     (λx hx=>jz x (by
      rw[dn,sF]at hx |-
      obtain⟨y,hy,hx⟩:=hx
      exact⟨y,xK (Hv hy),hx⟩)) (λk hk=>?_) λk x hx=>?_
    ·rw[Dk]
     refine gS _ ?_
     rw[dA]at hk
     have:l*sz+(h-l)*sz<=elems.length*sz:=by rw[<-uV];exact Aa _ (by omega)
     omega
    ·rcases h0 with h0|h0
     ·exact hV _ x (gX h ee h0 hx)
     ·exfalso
      have:(dn ((elems.take h).drop l)).length=0:=by
       rw[dF (cB:=sz) λx hx=>ee x (xK (Hv hx)),h0];simp
      rw[Kx this]at hx
      simp at hx
theorem Ju(hs:eL G s w)(he:jm G bI a.tmps){t:TypeId}{p x:AV}{pv:Value}{lo hi mx:Option Operand}(hp:V G p pv)(h:oL P t p bI lo hi mx s=some x):
  tu P G s w (Instr.sliceAt t pv (lo.map a.eval) (hi.map a.eval) (mx.map a.eval)) x s:=by
 unfold oL at h
 split at h
 ·rename_i b
  split at h
  case isFalse=>cases h
  rename_i hc
  split at h
  case h_2=>cases h
  rename_i l h' hl hh
  split at h
  case isFalse=>cases h
  rename_i RY
  cases h
  cases hp
  obtain⟨hc1,hc2⟩:=hc
  cases mx with
  |some _=>cases hc2
  |none=>
   have hb:=iZ (P:=P) (w:=w) (XM:=false) (cap:=b.size) he hl hh (.inl ⟨rfl,rfl⟩) RY.1 RY.2 (eF _) (λ_=>RY.2)
   refine dN hs (v:=.string (b.extract l h')) ?_ (.str _)
   simp only[RJ]at hb
   simp[Instr.sliceAt,Instr.slice,run_underlying (B2 hc1),hb]
 ·rename_i full elems
  split at h
  case h_2=>cases h
  rename_i e hu
  split at h
  ·rename_i l h' hl hh
   split at h
   case isFalse=>cases h
   rename_i hc
   cases h
   exact DL hs he hp hu hl hh hc.1 hc.2.1 hc.2.2.1 hc.2.2.2 (.inl ⟨rfl,rfl⟩)
  ·rename_i l h' m0 hl hh
   split at h
   case h_2=>cases h
   rename_i m hm
   split at h
   case isFalse=>cases h
   rename_i hc
   cases h
   exact DL hs he hp hu hl hh hc.1 (by omega) hc.2.2.2.2.1 hc.2.2.2.2.2 (.inr ⟨m,rfl,hc.2.2.2.1,λd=>by simpa[gl]using hm,hc.2.1,hc.2.2.1,rfl⟩)
  ·cases h
 ·rename_i id bL len
  split at h
  case h_2=>cases h
  rename_i e hu
  split at h
  case h_2=>cases h
  rename_i cB elems hg
  have main: ∀{l h':Nat},gl bI lo 0=some l->gl bI hi len=some h'->l<=h'->h'<=len->dr P e=some cB->
    ((mx=none)\/ ∃m,mx.isSome=true/\hi.isSome=true/\(∀d,gl bI mx d=some m)/\h'<=m/\m<=len)->
    tu P G s w (Instr.sliceAt t pv (lo.map a.eval) (hi.map a.eval) (mx.map a.eval)) (.ms id (bL+l) (h'-l)) s:=by
   intro l h' hl hh h1 h2 eC hm
   cases hp with
   |gC _ _ cap bR hc=>
    subst hc
    obtain rfl:h'=0:=by omega
    obtain rfl:l=0:=by omega
    have kz:(Instr.sliceBounds true 0 0 (lo.map a.eval) (hi.map a.eval) (mx.map a.eval)).run P w=.ok (0,0,0) w:=by
     rcases hm with rfl|⟨m,m1,m2,m3,m4,m5⟩
     ·exact iZ he hl hh (.inl ⟨rfl,rfl⟩) h1 (eF _) (eF _) (λ_=>eF _)
     ·obtain rfl:m=0:=by omega
      exact iZ he hl hh (.inr ⟨m1,m2,m3 _⟩) h1 m4 (eF _) (λe=>by subst e;cases m1)
    exact dN hs (v:=.slice bR 0 0) (by simp[Instr.sliceAt,Instr.slice,run_underlying (fD hu),kz,eo eC]) (.gC _ _ _ _ rfl)
   |ms _ _ _ cap r addr ho eE eZ gA=>
    obtain⟨o,e2,e3⟩:=hs.at hg ho
    cases e3 with
    |cells _ _ cs ty tK ee h0 iM jz DK hV=>
     obtain⟨m,kz,QB,hmc⟩: ∃m,(Instr.sliceBounds true len cap (lo.map a.eval) (hi.map a.eval) (mx.map a.eval)).run P w=.ok (l,h',m) w/\h'<=m/\m<=cap:=by
      rcases hm with rfl|⟨m,m1,m2,m3,m4,m5⟩
      ·exact⟨cap,iZ he hl hh (.inl ⟨rfl,rfl⟩) h1 (by omega) (eF _) (λ_=>by omega),by omega,eF _⟩
      ·exact⟨m,iZ he hl hh (.inr ⟨m1,m2,m3 _⟩) h1 m4 (by omega) (λe=>by subst e;cases m1),m4,by omega⟩
     subst ee
     have run:(Instr.sliceAt t (.slice (some ⟨r.block,addr,none⟩) len cap) (lo.map a.eval) (hi.map a.eval) (mx.map a.eval)).run P w=
       .ok (.slice (some ⟨r.block,if m=l then addr else addr+l*r.cB,none⟩) (h'-l) (m-l)) w:=by
      simp[Instr.sliceAt,Instr.slice,run_underlying (fD hu),kz,eo eC,nu]
      split<;>rfl
     refine dN hs run (.ms _ _ _ _ r _ ho (by omega) ?_ λAh=>?_)
     ·refine vU ?_ eZ
      exact RK (Aa _ (by omega)) _
     ·rw[dM (by omega),gA (by omega),uV,Dk]
  split at h
  ·rename_i l h' hl hh
   split at h
   case isFalse=>cases h
   rename_i hc
   cases h
   exact main hl hh hc.1 hc.2.1 hc.2.2 (.inl rfl)
  ·rename_i l h' m0 hl hh
   split at h
   case h_2=>cases h
   rename_i m hm
   split at h
   case isFalse=>cases h
   rename_i hc
   cases h
   exact main hl hh hc.1 (by omega) hc.2.2.2.2 (.inr ⟨m,rfl,hc.2.2.2.1,λd=>by simpa[gl]using hm,hc.2.1,hc.2.2.1⟩)
  ·cases h
 ·rename_i id bL len cap
  split at h
  case h_2=>cases h
  rename_i e hu
  split at h
  case h_2=>cases h
  rename_i cB elems hg
  split at h
  case h_2=>cases h
  rename_i l h' hl hh
  split at h
  case isFalse=>cases h
  rename_i hc
  obtain⟨h1,h2,eC⟩:=hc
  cases h
  cases hp with
  |mZ _ _ bR=>
   obtain rfl:h'=0:=by omega
   obtain rfl:l=0:=by omega
   have kz:=iZ (P:=P) (w:=w) (XM:=true) (len:=0) (cap:=0) (mx:=none) he hl hh (.inl ⟨rfl,rfl⟩) h1 (eF _) (eF _) (λ_=>eF _)
   simp only[RJ]at kz
   exact dN hs (v:=.slice bR 0 0) (by simp[Instr.sliceAt,Instr.slice,run_underlying (fD hu),kz,eo eC]) (.mZ _ _ _)
  |mc _ _ _ _ r addr ho eE eZ gA=>
   obtain⟨o,e2,e3⟩:=hs.at hg ho
   cases e3 with
   |cells _ _ cs ty tK ee h0 iM jz DK hV=>
    have kz:=iZ (P:=P) (w:=w) (XM:=true) (len:=len) (cap:=cap) (mx:=none) he hl hh (.inl ⟨rfl,rfl⟩) h1 h2 (eF _) (λ_=>h2)
    simp only[RJ]at kz
    subst ee
    have run:(Instr.sliceAt t (.slice (some ⟨r.block,addr,none⟩) len cap) (lo.map a.eval) (hi.map a.eval) none).run P w=
      .ok (.slice (some ⟨r.block,if cap=l then addr else addr+l*r.cB,none⟩) (h'-l) (cap-l)) w:=by
     simp[Instr.sliceAt,Instr.slice,run_underlying (fD hu),kz,eo eC,nu]
     split<;>rfl
    refine dN hs run (.mc _ _ _ _ r _ ho (by omega) ?_ λAh=>?_)
    ·refine vU ?_ eZ
     exact RK (Aa _ (by omega)) _
    ·rw[dM (by omega),gA (by omega),uV,Dk]
 ·cases h
end
end Go.Am
end
section
namespace Go.Am
open Go.RowKit
section
variable {P:Program} {G:cg} {s s':St} {w:World} {bI:Env} {a:Act}
theorem eL.move{w':World}(h:eL G s w){id:Nat}{blk sH:gD}{r r':uW}{o:Obj}(hg:bH s.heap id=some blk)(ho:G.own id=some r)(hb:r'.block=r.block)
  (hs:w'.heap.size=w.heap.size) (Zc:w'.os=w.os) (ht:w'.tape=w.tape) (rP:w'.output=w.output)
  (hk: ∀b,b≠r.block->w'.heap[b]? =w.heap[b]?) (hw:w'.heap[r.block]? =some o) (hh:Holds (G.put s.bT r') r' sH o) (qQ:blk≠ .gr) (Oj:w.drawn<=w'.drawn:=by exact eF _):
  eL (G.put s.bT r') ⟨(s.bT,sH)::eB s.heap id,s.bT+1⟩ w'/\Ext G s w (G.put s.bT r') ⟨(s.bT,sH)::eB s.heap id,s.bT+1⟩ w':=by
 have eE:sr G (G.put s.bT r'):=.put (h.ct _ (eF _))
 have eV:id≠s.bT:=λe=>by rw[h.ct id (by omega)]at ho;cases ho
 have jy: ∀i b,bH ((s.bT,sH)::eB s.heap id) i=some b->(i=s.bT/\b=sH)\/(i≠s.bT/\i≠id/\bH s.heap i=some b):=λi b hi=>by
  simp only[cV,cM]at hi
  split at hi
  ·cases hi;exact .inl ⟨by omega,rfl⟩
  ·rename_i h1
   rw[fH]at hi
   split at hi
   ·cases hi
   ·exact .inr ⟨by omega,by omega,hi⟩
 have gQ: ∀i,i≠s.bT->(G.put s.bT r').own i=G.own i:=λi eV=>by simp[cg.put,eV]
 have mD:(G.put s.bT r').own s.bT=some r':=by simp[cg.put]
 refine⟨⟨?_,?_,?_,?_,?_,?_⟩,⟨eE,Zc,ht,rP,by omega,?_,?_,?_,?_,by simp,?_,λi hl Jl=>by rw[gQ i (by omega)];exact Jl,Oj⟩⟩
 ·intro b i v hi
  have eV:b≠r.block:=λe=>by subst e;have h2:=h.clear id _ r i hg ho;rw[show G.gP r.block i=some v from hi]at h2;cases h2
  have:=h.gP b i v hi
  rwa[World.cell?_of_block (w:=w) (hk b eV)]
 ·intro i b hi
  rcases jy i b hi with⟨rfl,rfl⟩|⟨n1,n2,nq⟩
  ·exact .inl ⟨r',o,mD,by rw[hb];exact hw,hh⟩
  ·rcases h.heap i b nq with⟨r1,o1,e1,e2,e3⟩|⟨e1,e2⟩
   ·exact .inl ⟨r1,o1,by rw[gQ _ n1];exact e1,by rw[hk _ (h.apart i id b _ r1 r nq hg e1 ho n2)];exact e2,e3.mono eE⟩
   ·exact .inr ⟨by rw[gQ _ n1];exact e1,e2⟩
 ·intro i i' b b' r1 r2 h1 h2 o1 o2 mW
  rcases jy i b h1 with⟨rfl,rfl⟩|⟨n1,m1,g1⟩<;>rcases jy i' b' h2 with⟨rfl,rfl⟩|⟨n2,m2,g2⟩
  ·exact absurd rfl mW
  ·rw[mD]at o1;cases o1
   rw[gQ _ n2]at o2
   rw[hb];exact h.apart id i' _ b' r r2 hg g2 ho o2 (λe=>m2 e.symm)
  ·rw[mD]at o2;cases o2
   rw[gQ _ n1]at o1
   rw[hb];exact h.apart i id b _ r1 r g1 hg o1 ho m1
  ·rw[gQ _ n1]at o1;rw[gQ _ n2]at o2
   exact h.apart i i' b b' r1 r2 g1 g2 o1 o2 mW
 ·intro i b r1 j hi Jl
  rcases jy i b hi with⟨rfl,rfl⟩|⟨n1,m1,g1⟩
  ·rw[mD]at Jl;cases Jl
   rw[hb];exact h.clear id _ r j hg ho
  ·rw[gQ _ n1]at Jl
   exact h.clear i b r1 j g1 Jl
 ·intro i hi
  rw[gQ i (by simp at hi;omega)]
  exact h.ct i (by simp at hi;omega)
 ·intro i b hi
  show i<s.bT+1
  rcases jy i b hi with⟨rfl,rfl⟩|⟨n1,m1,g1⟩
  ·omega
  ·have:=h.lt i b g1;omega
 ·intro b nq hn
  exact hk b λe=>hn ⟨id,blk,r,hg,ho,e.symm⟩
 ·intro b o v hi;exact .inl hi
 ·intro i r1 hi
  simp only[cg.put]at hi
  split at hi
  ·cases hi;exact .inr (.inr ⟨id,blk,r,hg,ho,hb.symm⟩)
  ·exact .inl hi
 ·intro i b hi
  rcases jy i b hi with⟨rfl,rfl⟩|⟨_,_,g⟩
  ·exact .inr (eF _)
  ·exact .inl ⟨_,g⟩
 ·intro i hi
  have h1:i≠s.bT:=λe=>by
   subst e
   have:=h.lt s.bT _ hi
   omega
  have h2:i≠id:=λe=>by subst e;rw[hg]at hi;cases hi;exact qQ rfl
  simp only[cV,cM]
  rw[dM (λe=>h1 e.symm),fH,dM (λe=>h2 e.symm)]
  exact hi
theorem VL.append{xs ys:List AV}{vs us:Array Value}(h:VL G xs vs)(k:VL G ys us):VL G (xs++ys) (vs++us):=by
 refine⟨by simp[h.1,k.1],λi x y hx hy=>?_⟩
 by_cases hi:i<xs.length
 ·rw[np hi]at hx
  rw[Xw (by rw[<-h.1];exact hi)]at hy
  exact h.2 i x y hx hy
 ·rw[pG (by omega)]at hx
  rw[Array.getElem?_append_right (by rw[<-h.1];omega),<-h.1]at hy
  exact k.2 _ x y hx hy
theorem fI(hs:eL G s w){e:TypeId}{x:AV}{xv:Value}(hx:V G x xv){l:List AV}(hl:fO x s=some l){sz:Nat}(eC:dr P e=some sz)(hf:kT P e x s):
  (∀y∈l,y.cells.length=sz)/\(∀y∈dn l,y.cX=true)/\(Builtin.lenOf xv).run P w=.ok l.length w/\
  ∀n,n<=l.length-> ∃vs,(∀w',(∀a,w'.cell? a=w.cell? a)->(Builtin.firstCells sz n xv).run P w'=.ok vs w')/\VL G (dn (l.take n)) vs:=by
 have load: ∀(b o n:Nat)(cs:List AV),qe G w b o cs->n<=cs.length-> ∃vs,(∀w',(∀a,w'.cell? a=w.cell? a)->(loadCells ⟨b,o,none⟩ n).run P w'=.ok vs w')/\VL G (cs.take n) vs:=by
  intro b o n cs ht hn
  obtain⟨vs,e1,e2⟩:=ht.loadCells (P:=P) hn
  refine⟨vs,λw' hw=>?_,e2⟩
  have w9:qe G w' b o cs:=λk x hx=>by rw[hw];exact ht k x hx
  obtain⟨vs',Zn,Uo⟩:=w9.loadCells (P:=P) hn
  have:vs'=vs:=by
   have q: ∀w':World,(∀a,w'.cell? a=w.cell? a)->(loadCells ⟨b,o,none⟩ n).run P w'=.ok ((List.range n).map λj=>(w.cell? ⟨b,o+j,none⟩).getD undef).toArray w':=λw' hw=>by
    refine run_loadCells w' _ n _ λj hj=>?_
    rw[nu,hw]
    obtain⟨v,hv,_⟩:=ht j cs[j] (dH (by omega))
    simp[hv]
   rw[q w' hw]at Zn;rw[q w λ_=>rfl]at e1
   cases e1;cases Zn;rfl
  rw[Zn,this]
 unfold fO at hl
 split at hl
 ·rename_i full elems
  cases hl
  obtain⟨bR,cap,rfl,eE,_,hb,hz⟩:=V.qf hx
  rcases hz with rfl|⟨b,off,cB,val,rfl,ee,jz,gS,hV⟩
  ·refine⟨by simp,by simp[dn],by simp[Builtin.lenOf],λn hn=>⟨#[],λw' _=>?_,by simp[dn];exact⟨rfl,by simp⟩⟩⟩
   have:n=0:=by simpa using hn
   subst this
   cases bR<;>simp[Builtin.firstCells,loadCells,loadCellsFrom]
  ·have iP: ∀y∈l,y.cells.length=sz:=λy hy=>by
    have:=HD (P:=P) hf ee (λe=>by subst e;cases hy)
    rw[eC]at this;cases this;exact ee y hy
   refine⟨iP,jz,by simp[Builtin.lenOf],λn hn=>?_⟩
   obtain⟨vs,e1,e2⟩:=load b off (n*sz) _ (Js hs ee gS hV) (by rw[dF iP];exact Aa _ hn)
   refine⟨vs,λw' hw=>by simpa[Builtin.firstCells]using e1 w' hw,?_⟩
   have:(dn l).take (n*sz)=dn (l.take n):=by
    conv=>lhs;rw[<-Qt n l,dE]
    rw[Xx (by rw[dF (cB:=sz) λy hy=>iP y (xK hy)];simp[Oh hn])]
    rw[sG (by rw[dF (cB:=sz) λy hy=>iP y (xK hy)];simp[Oh hn])]
   rwa[this]at e2
 ·rename_i id bL len
  split at hl
  case h_2=>cases hl
  rename_i cB elems hg
  split at hl
  case isFalse=>cases hl
  rename_i eZ
  cases hl
  have uU:dr P e=some cB:=by simpa[kT,hg]using hf
  rw[eC]at uU;cases uU
  cases hx with
  |gC _ _ cap bR hc=>
   subst hc
   rw[RL]
   refine⟨by simp,by simp[dn],by simp[Builtin.lenOf],λn hn=>?_⟩
   obtain rfl:n=0:=by simpa using hn
   refine⟨#[],λw' _=>?_,by simp[dn];exact⟨rfl,by simp⟩⟩
   cases bR<;>simp[Builtin.firstCells,loadCells,loadCellsFrom]
  |ms _ _ _ cap r addr ho eE OU gA=>
   obtain⟨o,e2,e3⟩:=hs.at hg ho
   cases e3 with
   |cells _ _ cs ty tK ee h0 iM jz DK hV=>
    subst ee
    have dA:((elems.drop bL).take len).length=len:=by simp;omega
    have ku: ∀y∈(elems.drop bL).take len,y∈elems:=λy hy=>Hv (xK hy)
    refine⟨λy hy=>iM y (ku y hy),λx hx=>jz x (by
     rw[dn,sF]at hx |-
     obtain⟨y,hy,hx⟩:=hx
     exact⟨y,ku y hy,hx⟩),by simp[Builtin.lenOf];omega,λn hn=>?_⟩
    rw[dA]at hn
    rw[RM,Oh hn]
    by_cases RX:n=0
    ·subst RX
     exact⟨#[],λw' _=>by simp[Builtin.firstCells,loadCells,loadCellsFrom],by simp[dn];exact⟨rfl,by simp⟩⟩
    ·have ht:qe G w r.block (r.bR+bL*r.cB) (dn (elems.drop bL)):=by
      intro k x hx
      have hd: ∀y∈elems.drop bL,y.cells.length=r.cB:=λy hy=>iM y (Hv hy)
      have hk:(dn elems)[bL*r.cB+k]? =some x:=by
       have h3:=gX (n:=elems.length) (l:=bL) iM h0 (k:=k) (x:=x) (by rw[AL];exact hx)
       exact h3
      obtain⟨v,q1,q2⟩:=hV _ x hk
      exact⟨v,by simp only[World.cell?,e2];rw[Dk];simpa using q1,q2⟩
     have hd: ∀y∈elems.drop bL,y.cells.length=r.cB:=λy hy=>iM y (Hv hy)
     obtain⟨vs,q1,q2⟩:=load r.block (r.bR+bL*r.cB) (n*r.cB) _ ht (by rw[dF hd];exact Aa _ (by simp;omega))
     refine⟨vs,λw' hw=>by rw[gA (by omega)];simpa[Builtin.firstCells]using q1 w' hw,?_⟩
     have zV: ∀y∈(elems.drop bL).take n,y.cells.length=r.cB:=λy hy=>hd y (xK hy)
     have Vi:((elems.drop bL).take n).length=n:=by simp;omega
     have:(dn (elems.drop bL)).take (n*r.cB)=dn ((elems.drop bL).take n):=by
      conv=>lhs;rw[<-Qt n (elems.drop bL),dE]
      rw[Xx (by rw[dF zV,Vi];exact eF _)]
      rw[sG (by rw[dF zV,Vi];exact eF _)]
     rwa[this]at q2
 ·cases hl
end
end Go.Am
end
