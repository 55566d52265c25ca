/- The logic AM, A: abstract values and states; operations; moves; the rules; soundness of the first operations. -/
import Derived.Test.YtgpciecmgoppiaaGreatPin
import Derived.RangeFuncLeaves
import Derived.OrdersIn
import Derived.Laws.Cells
import Derived.Laws.CopyRow
import Derived.Laws.World
import Derived.RowKit3
import Derived.Below
import Derived.Laws.Append
set_option linter.all false
section
namespace Go.Am
abbrev cN:=@Option.bind_some
abbrev cP:=@cond_true
abbrev dv:=@cond_false
abbrev dF:=@List.getElem?_eq_getElem
abbrev ez:=@if_pos
abbrev eU:=@Bool.and_eq_true
abbrev fw:=@Nat.le_refl
abbrev fL:=@congrArg
abbrev fN:=@if_neg
abbrev fZ:=@decide_false
abbrev gN:=@List.mem_of_getElem?
abbrev iJ:=@Option.map_some
abbrev ju:=@decide_true
abbrev jU:=@Nat.eq_of_beq_eq_true
abbrev lf:=@List.getElem?_eq_some_iff
abbrev mS:=@List.mem_map
abbrev oq:=@List.mem_append
abbrev pU:=@List.mem_cons
abbrev pV:=@Bool.not_true
abbrev qc:=@List.all_eq_true
abbrev qd:=@ne_eq
abbrev qe:=@not_true_eq_false
abbrev qf:=@decide_eq_false
abbrev qZ:=@List.getElem_of_mem
abbrev re:=@List.length_append
abbrev sq:=@List.take_of_length_le
abbrev sr:=@Bool.not_eq_true'
abbrev tv:=@Nat.blt_eq
abbrev tw:=@List.mem_flatMap
abbrev vd:=@Nat.le_of_ble_eq_true
abbrev vl:=@List.length_cons
abbrev vm:=@Bool.or_eq_true
abbrev vn:=@List.length_map
abbrev wb:=@Int.toNat_natCast
abbrev wV:=@List.append_nil
abbrev xm:=@List.nil_append
abbrev xQ:=@List.mem_filter
abbrev xR:=@List.getElem?_map
abbrev Aj:=@List.map_cons
abbrev Ak:=@if_true
abbrev Al:=@List.cons_append
abbrev Aq:=@List.getElem?_append_left
abbrev Ar:=@Option.isSome_iff_exists
abbrev AW:=@Nat.le_trans
abbrev AX:=@Int.lt_irrefl
abbrev BW:=@decide_eq_true_eq
abbrev BX:=@Sum.elim_inl
abbrev Ds:=@Nat.zero_le
abbrev Dt:=@List.pairwise_cons
abbrev Du:=@decide_eq_true
abbrev DA:=@Nat.mul_le_mul_right
abbrev DB:=@List.getElem?_append_right
abbrev F0:=@Nat.add_zero
abbrev F1:=@List.flatMap_cons
abbrev F2:=@List.getElem_mem
abbrev F3:=@Nat.add_mul
abbrev F4:=@List.map_append
abbrev F5:=@List.any_eq_true
abbrev Gg:=@Nat.ble_eq
abbrev Gh:=@List.mem_append_right
abbrev Ie:=@Bool.false_or
abbrev Ig:=@List.mem_append_left
abbrev JZ:=@List.mem_of_mem_take
abbrev J0:=@Nat.zero_add
abbrev J1:=@Option.getD_some
abbrev J2:=@List.mem_range
abbrev J3:=@Bool.or_eq_false_iff
abbrev J4:=@Nat.lt_or_ge
abbrev J5:=@List.length_filter_le
abbrev LH:=@List.take_length
abbrev LI:=@Bool.not_false
abbrev LY:=@List.length_nil
abbrev LZ:=@List.append_assoc
abbrev L0:=@List.map_drop
abbrev L1:=@List.map_map
abbrev L2:=@Option.map_eq_some_iff
abbrev L3:=@List.pairwise_map
abbrev L4:=@List.filter_append
abbrev Py:=@List.eq_nil_of_length_eq_zero
abbrev Pz:=@Array.getD_eq_getD_getElem?
abbrev PA:=@decide_eq_false_iff_not
abbrev PW:=@List.mem_of_mem_drop
abbrev PX:=@List.length_pos_iff
abbrev PY:=@List.flatMap_nil
abbrev PZ:=@true_and
abbrev RU:=@Nat.lt_of_lt_of_le
abbrev RV:=@Array.getElem?_eq_getElem
abbrev RW:=@Nat.add_assoc
abbrev RX:=@Nat.sub_self
abbrev RY:=@Option.map_none
abbrev RZ:=@and_true
abbrev S9:=@List.take_zero
abbrev Ta:=@List.map_nil
abbrev Tb:=@List.mem_singleton
abbrev Tc:=@List.pairwise_iff_getElem
abbrev Td:=@List.ext_getElem?
abbrev VF:=@List.take_append_drop
abbrev VG:=@Array.getElem?_eq_some_iff
abbrev VH:=@Array.eq_empty_of_size_eq_zero
abbrev VI:=@List.foldl_cons
abbrev VJ:=@List.all_cons
abbrev VK:=@List.mem_cons_of_mem
abbrev VM:=@List.map_take
abbrev VN:=@Int.natCast_nonneg
abbrev VO:=@List.length_take_le
abbrev VP:=@List.getElem?_set_self
abbrev VQ:=@List.getElem?_set_ne
abbrev Wm:=@List.length_replicate
abbrev Wn:=@Nat.lt_succ_self
abbrev Wo:=@List.length_singleton
abbrev Wp:=@of_decide_eq_true
abbrev Wq:=@Bool.true_and
abbrev Wr:=@Nat.le_of_lt
abbrev Ws:=@List.sum_cons
abbrev Wt:=@getElem!_pos
abbrev Wu:=@List.pairwise_append
abbrev Wv:=@List.drop_of_length_le
abbrev Ww:=@List.any_eq_false
abbrev Wx:=@Nat.lt_trichotomy
abbrev YJ:=@List.getElem?_drop
abbrev YL:=@List.getElem?_take
abbrev YM:=@List.length_eq_zero_iff
abbrev YN:=@Nat.add_le_add_left
abbrev YO:=@Nat.mul_eq_zero
abbrev YP:=@not_false_eq_true
abbrev YQ:=@List.filter_cons
abbrev YR:=@List.foldr_cons
abbrev YS:=@List.drop_append
abbrev YT:=@List.take_append
abbrev YU:=@Bool.or_assoc
abbrev YV:=@Bool.or_false
abbrev YW:=@List.exists_cons_of_ne_nil
abbrev YX:=@List.getElem?_mapIdx
abbrev Z9:=@List.mem_or_eq_of_mem_set
abbrev zD0:=@Array.getElem?_append_left
abbrev zD1:=@Nat.mul_le_mul_left
abbrev zD2:=@Array.length_toList
abbrev zD3:=@List.range_eq_range'
abbrev zD4:=@Bool.not_eq_false'
abbrev zD5:=@List.take_set_of_le
abbrev zD6:=@List.filter_eq_nil_iff
abbrev zD7:=@List.filter_sublist
abbrev zD8:=@Int.lt_trichotomy
abbrev zD9:=@Array.all_eq_true_iff_forall_mem
abbrev zEA:=@List.findIdx?_eq_some_iff_getElem
open Go.RowKit
inductive AV where
 |bool (b:Bool)
 |int (k:IntKind) (n:Int)
 |str (s:ByteArray)
 |jN
 |nB
 |sl (full:Bool) (elems:List AV)
 |ip (cells:List AV)
 |mp (id el off:Nat)
 |ms (id bq len:Nat)
 |mc (id bq len cap:Nat)
 |fn (f:FuncId) (fi:List AV)
 |kK (id:Nat)
 |agg (cells:List AV)
 |dS (vs:List AV)
 |any
 deriving Inhabited
abbrev AV.i(n:Int):AV:=.int .i64 n
def AV.cells:AV->List AV
 |.agg cs=>cs
 |v=>[v]
def AV.isAgg:AV->Bool
 |.agg _=>true
 |_=>false
def AV.cJ:AV->Bool
 |.agg _|.dS _|.any=>false
 |_=>true
def de(l:List AV):List AV:=l.flatMap AV.cells
structure tx where
 block:Nat
 bG:Nat
 cq:Nat
 size:Nat
structure bS where
 ig:Nat->Nat->Option Value
 own:Nat->Option tx
inductive V (G:bS):AV->Value->Prop
 |any (v:Value):V G .any v
 |bool (b:Bool):V G (.bool b) (.bool b)
 |int (k:IntKind) (n:Int):V G (.int k n) (.int k n)
 |str (s:ByteArray):V G (.str s) (.string s)
 |jN:V G .jN (.pointer none)
 |nB:V G .nB .nilFunc
 |slnil (full:Bool) (bG:Option Addr) (cap:Nat) (hf:full=true->cap=0) (hb:bG=none->cap=0):V G (.sl full []) (.slice bG 0 cap)
 |sl (full:Bool) (elems:List AV) (b off cq cap:Nat) (val:Nat->Value) (jC:elems.length<=cap) (jX:full=true->cap=elems.length)
  (eo: ∀e∈elems,e.cells.length=cq) (kI: ∀x∈de elems,x.cJ=true) (gE: ∀k,k<elems.length*cq->G.ig b (off+k)=some (val k))
  (hV: ∀k x,(de elems)[k]? =some x->V G x (val k)):V G (.sl full elems) (.slice (some ⟨b,off,none⟩) elems.length cap)
 |ip (cells:List AV) (b off:Nat) (val:Nat->Value) (gE: ∀k,k<cells.length->G.ig b (off+k)=some (val k))
  (hV: ∀k x,cells[k]? =some x->V G x (val k)):V G (.ip cells) (.pointer (some ⟨b,off,none⟩))
 |mp (id el off:Nat) (r:tx) (h:G.own id=some r):V G (.mp id el off) (.pointer (some ⟨r.block,r.bG+el*r.cq+off,none⟩))
 |ms (id bq len cap:Nat) (r:tx) (addr:Nat) (h:G.own id=some r) (eR:len<=cap) (ga:r.bG+(bq+cap)*r.cq<=r.size)
  (iK:0<cap->addr=r.bG+bq*r.cq):V G (.ms id bq len) (.slice (some ⟨r.block,addr,none⟩) len cap)
 |gO (id bq cap:Nat) (bG:Option Addr) (hc:cap=0):V G (.ms id bq 0) (.slice bG 0 cap)
 |mc (id bq len cap:Nat) (r:tx) (addr:Nat) (h:G.own id=some r) (eR:len<=cap) (ga:r.bG+(bq+cap)*r.cq<=r.size)
  (iK:0<cap->addr=r.bG+bq*r.cq):V G (.mc id bq len cap) (.slice (some ⟨r.block,addr,none⟩) len cap)
 |mE (id bq:Nat) (bG:Option Addr):V G (.mc id bq 0 0) (.slice bG 0 0)
 |fn (f:FuncId) (fi:List AV) (vs:Array Value) (dK:fi.length=vs.size) (h: ∀(i:Nat)x y,fi[i]? =some x->vs[i]? =some y->V G x y):
  V G (.fn f fi) (.func (.func f) #[] vs)
 |kK (id:Nat) (r:tx) (h:G.own id=some r):V G (.kK id) (.func (.yield r.block) #[] #[])
 |agg (cs:List AV) (vs:Array Value) (dK:cs.length=vs.size) (h: ∀(i:Nat)x y,cs[i]? =some x->vs[i]? =some y->V G x y):V G (.agg cs) (.agg vs)
 |dS (cs:List AV) (vs:Array Value) (dK:cs.length=vs.size) (h: ∀(i:Nat)x y,cs[i]? =some x->vs[i]? =some y->V G x y):V G (.dS cs) (.tuple vs)
def VL(G:bS)(cs:List AV)(vs:Array Value):Prop:=cs.length=vs.size/\ ∀(i:Nat)x y,cs[i]? =some x->vs[i]? =some y->V G x y
structure ss (G G':bS):Prop where
 ig: ∀b o v,G.ig b o=some v->G'.ig b o=some v
 own: ∀id r,G.own id=some r->G'.own id=some r
theorem ss.refl(G:bS):ss G G:=⟨λ_ _ _ h=>h,λ_ _ h=>h⟩
theorem ss.trans{A B C:bS}(h:ss A B)(k:ss B C):ss A C:=⟨λ_ _ _ x=>k.ig _ _ _ (h.ig _ _ _ x),λ_ _ x=>k.own _ _ (h.own _ _ x)⟩
theorem V.mono{G G':bS}(hG:ss G G'){x:AV}{v:Value}(h:V G x v):V G' x v:=by
 induction h with
 |any v=>exact .any v
 |bool b=>exact .bool b
 |int k n=>exact .int k n
 |str s=>exact .str s
 |jN=>exact .jN
 |nB=>exact .nB
 |slnil full bG cap hf hb=>exact .slnil full bG cap hf hb
 |sl full elems b off cq cap val jC jX eo kI gE _ ih=>exact .sl full elems b off cq cap val jC jX eo kI (λk hk=>hG.ig _ _ _ (gE k hk)) ih
 |ip cells b off val gE _ ih=>exact .ip cells b off val (λk hk=>hG.ig _ _ _ (gE k hk)) ih
 |mp id el off r h=>exact .mp id el off r (hG.own _ _ h)
 |ms id bq len cap r addr h eR ga ha=>exact .ms id bq len cap r addr (hG.own _ _ h) eR ga ha
 |gO id bq cap bG hc=>exact .gO id bq cap bG hc
 |mc id bq len cap r addr h eR ga ha=>exact .mc id bq len cap r addr (hG.own _ _ h) eR ga ha
 |mE id bq bG=>exact .mE id bq bG
 |fn f fi vs dK _ ih=>exact .fn f fi vs dK ih
 |kK id r h=>exact .kK id r (hG.own _ _ h)
 |agg cs vs dK _ ih=>exact .agg cs vs dK ih
 |dS cs vs dK _ ih=>exact .dS cs vs dK ih
theorem VL.mono{G G':bS}(hG:ss G G'){cs:List AV}{vs:Array Value}(h:VL G cs vs):VL G' cs vs:=⟨h.1,λi x y hx hy=>(h.2 i x y hx hy).mono hG⟩
abbrev Env:=List (Nat×AV)
def bn{β:Type}:List (Nat×β)->Nat->Option β
 | [],_=>none
 |(k,x)::r,i=>bif Nat.beq k i then some x else bn r i
def dM{β:Type}:List (Nat×β)->Nat->β->List (Nat×β)
 | [],i,x=>[(i,x)]
 |(k,y)::r,i,x=>bif Nat.beq k i then(i,x)::r else(k,y)::dM r i x
theorem L5{α:Type}(k i:Nat)(x y:α):(bif Nat.beq k i then x else y)=if k=i then x else y:=by
 simp_all
theorem df{β:Type}(i:Nat):bn ([]:List (Nat×β)) i=none:=rfl
theorem cG{β:Type}(k:Nat)(x:β)(r:List (Nat×β))(i:Nat):bn ((k,x)::r) i=if k=i then some x else bn r i:=L5 k i _ _
theorem L6{β:Type}(i:Nat)(x:β):dM [] i x=[(i,x)]:=rfl
theorem tz{β:Type}(k:Nat)(y:β)(r:List (Nat×β))(i:Nat)(x:β):dM ((k,y)::r) i x=if k=i then(i,x)::r else(k,y)::dM r i x:=L5 k i _ _
def dZ{β:Type}:List (Nat×β)->Nat->List (Nat×β)
 | [],_=>[]
 |(k,y)::r,i=>if k=i then dZ r i else(k,y)::dZ r i
theorem eK{β:Type}(l:List (Nat×β))(i j:Nat)(x:β):bn (dM l i x) j=if i=j then some x else bn l j:=by
 induction l with
 |nil=>simp[L6,tz,df,cG]
 |cons a r ih=>
  obtain⟨k,y⟩:=a;simp only[L6,tz,df,cG];split
  ·grind [cG]
  ·rename_i h;simp only[df,cG,ih];grind
theorem fO{β:Type}(l:List (Nat×β))(i j:Nat):bn (dZ l i) j=if i=j then none else bn l j:=by
 induction l with
 |nil=>simp[dZ,df,cG]
 |cons a r ih=>
  obtain⟨k,y⟩:=a;simp only[dZ];split
  ·grind [cG]
  ·rename_i h;simp only[df,cG,ih];grind
structure wc where
 bf:Env
 ntmps:Nat
 params:List Tmp
 assign:Code
 body:Code
 state:LoopState
 pending:Option Code
inductive gM where
 |cells (cq:Nat) (elems:List AV)
 |loop (l:wc)
 |gq
structure St where
 heap:List (Nat×gM)
 bN:Nat
def iL(G:bS)(bf:Env)(tmps:Array Value):Prop:= ∀t x,bn bf t=some x->t<tmps.size/\V G x (tmps.getD t undef)
theorem iL.mono{G G':bS}(hG:ss G G'){bf:Env}{tmps:Array Value}(h:iL G bf tmps):iL G' bf tmps:=λt x hx=>⟨(h t x hx).1,(h t x hx).2.mono hG⟩
inductive Holds (G:bS) (r:tx):gM->Obj->Prop
 |cells (cq:Nat) (elems:List AV) (cs:Array Value) (e:TypeId) (eB:cs.size=r.size) (eo:r.cq=cq) (h0:0<cq)
  (jR: ∀x∈elems,x.cells.length=cq) (kI: ∀x∈de elems,x.cJ=true) (ga:r.bG+elems.length*cq<=r.size)
  (hV: ∀k x,(de elems)[k]? =some x-> ∃v,cs[r.bG+k]? =some v/\V G x v):Holds G r (.cells cq elems) (.cells cs e (0,0))
 |loop (l:wc) (fn:FuncId) (tmps:Array Value) (d:Nat) (eB:tmps.size=l.ntmps) (hV:iL G l.bf tmps):
  Holds G r (.loop l) (.loop {state:=l.state,pending:=l.pending,fn:=fn,tmps:=tmps,params:=l.params.toArray,assign:=l.assign,body:=l.body,defers:=d})
 |gq:Holds G r .gq (.deferred (some []))
theorem Holds.mono{G G':bS}(hG:ss G G'){r:tx}{b:gM}{o:Obj}(h:Holds G r b o):Holds G' r b o:=by
 cases h with
 |cells cq elems cs e eB eo h0 jR kI ga hV=>exact .cells cq elems cs e eB eo h0 jR kI ga λk x hx=>let⟨v,a,b⟩:=hV k x hx;⟨v,a,b.mono hG⟩
 |loop l fn tmps d eB hV=>exact .loop l fn tmps d eB (hV.mono hG)
 |gq=>exact .gq
def mF(G:bS)(s:St)(b:Nat):Prop:= ∃id blk r,bn s.heap id=some blk/\G.own id=some r/\r.block=b
structure eG (G:bS) (s:St) (w:World):Prop where
 lW:(∀b o v,G.ig b o=some v->w.cell? ⟨b,o,none⟩=some v)/\JY G.ig
 heap: ∀id blk,bn s.heap id=some blk->(∃r o,G.own id=some r/\w.heap[r.block]? =some o/\Holds G r blk o)\/(G.own id=none/\ ∃cq,0<cq/\blk=.cells cq [])
 apart: ∀id fq blk sD r r',bn s.heap id=some blk->bn s.heap fq=some sD->G.own id=some r->G.own fq=some r'->id≠fq->r.block≠r'.block
 clear: ∀id blk r o,bn s.heap id=some blk->G.own id=some r->G.ig r.block o=none
 cj: ∀id,s.bN<=id->G.own id=none
 lt: ∀id blk,bn s.heap id=some blk->id<s.bN
theorem eG.ig{G:bS}{s:St}{w:World}(h:eG G s w): ∀b o v,G.ig b o=some v->w.cell? ⟨b,o,none⟩=some v:=h.lW.1
theorem eG.at{G:bS}{s:St}{w:World}(h:eG G s w){id:Nat}{blk:gM}{r:tx}(hg:bn s.heap id=some blk)(ho:G.own id=some r): ∃o,w.heap[r.block]? =some o/\Holds G r blk o:=by
 rcases h.heap id blk hg with⟨r',o,e1,e2,e3⟩|⟨e,_⟩
 all_goals grind
structure Ext (G:bS) (s:St) (w:World) (G':bS) (s':St) (w':World):Prop where
 le:ss G G'
 os:w'.os=w.os
 tape:w'.tape=w.tape
 output:w'.output=w.output
 size:w.heap.size<=w'.heap.size
 keep: ∀b,b<w.heap.size-> ¬mF G s b->w'.heap[b]? =w.heap[b]?
 jD: ∀b o v,G'.ig b o=some v->G.ig b o=some v\/w.heap.size<=b\/mF G s b
 iY: ∀id r,G'.own id=some r->G.own id=some r\/(w.heap.size<=r.block\/mF G s r.block)
 ids: ∀id blk,bn s'.heap id=some blk->(∃Te,bn s.heap id=some Te)\/s.bN<=id
 bN:s.bN<=s'.bN
 gq: ∀id,bn s.heap id=some .gq->bn s'.heap id=some .gq
 stay: ∀id,id<s.bN->G.own id=none->G'.own id=none
 drawn:w.drawn<=w'.drawn
theorem Ext.refl(G:bS)(s:St)(w:World):Ext G s w G s w:=
 ⟨.refl G,rfl,rfl,rfl,fw _,λ_ _ _=>rfl,λ_ _ _ h=>.inl h,λ_ _ h=>.inl h,λ_ _ h=>.inl ⟨_,h⟩,fw _,λ_ h=>h,λ_ _ h=>h,fw _⟩
theorem Ext.trans{G0 G1 G2:bS}{s0 s1 s2:St}{w0 w1 w2:World}(h0:eG G0 s0 w0)(a:Ext G0 s0 w0 G1 s1 w1)(b:Ext G1 s1 w1 G2 s2 w2):
  Ext G0 s0 w0 G2 s2 w2:=by
 have own: ∀x,mF G1 s1 x->w0.heap.size<=x\/mF G0 s0 x:=by
  rintro x ⟨id,blk,r,hg,ho,rfl⟩;rcases a.iY id r ho with h|h
  ·rcases a.ids id blk hg with⟨Te,hb⟩|L7
   ·exact .inr ⟨id,Te,r,hb,h,rfl⟩
   ·rw[h0.cj id L7]at h;cases h
  ·exact h
 refine⟨a.le.trans b.le,b.os.trans a.os,b.tape.trans a.tape,b.output.trans a.output,AW a.size b.size,?_,?_,?_,?_,AW a.bN b.bN,λid h=>b.gq id (a.gq id h),λid hl h=>b.stay id (RU hl a.bN) (a.stay id hl h),AW a.drawn b.drawn⟩
 ·intro x hx hn;rw[b.keep x (RU hx a.size) (λh=>(own x h).elim (λh=>by omega) hn)];exact a.keep x hx hn
 ·intro x o v h;rcases b.jD x o v h with h|h|h
  ·exact a.jD x o v h
  ·exact .inr (.inl (AW a.size h))
  grind
 ·intro id r h;rcases b.iY id r h with h|h|h
  ·exact a.iY id r h
  ·exact .inr (.inl (AW a.size h))
  grind
 ·intro id blk h;rcases b.ids id blk h with⟨aaa,h⟩|h
  ·exact a.ids id aaa h
  ·exact .inr (AW a.bN h)
end Go.Am
end
section
namespace Go.Am
open Go.RowKit
theorem Ih{w:World}{b o:Nat}{v:Value}(h:w.cell? ⟨b,o,none⟩=some v):b<w.heap.size:=by
 unfold World.cell? at h
 grind
theorem eG.qg{G:bS}{s:St}{w:World}(h:eG G s w){b o:Nat}{v:Value}(hi:G.ig b o=some v):b<w.heap.size:=Ih (h.ig _ _ _ hi)
theorem eG.jE{G:bS}{s:St}{w:World}(h:eG G s w){id:Nat}{blk:gM}{r:tx}(hg:bn s.heap id=some blk)(ho:G.own id=some r):r.block<w.heap.size:=by
 obtain⟨o,e2,_⟩:=h.at hg ho
 grind
theorem vo{w:World}{o:Obj}{b i:Nat}(hb:b<w.heap.size):(w.alloc o).cell? ⟨b,i,none⟩=w.cell? ⟨b,i,none⟩:=World.cell?_alloc_lt w o _ hb
def bS.put(G:bS)(id:Nat)(r:tx):bS:={ig:=G.ig,own:=λi=>if i=id then some r else G.own i}
theorem ss.put{G:bS}{id:Nat}{r:tx}(h:G.own id=none):ss G (G.put id r):=
 ⟨λ_ _ _ h=>h,λi r' hi=>by
  simp only[bS.put]
  grind⟩
theorem eG.put{G:bS}{s:St}{w:World}(h:eG G s w){o:Obj}{blk:gM}{r:tx}(hr:r.block=w.heap.size)(hh:Holds (G.put s.bN r) r blk o):
  eG (G.put s.bN r) ⟨(s.bN,blk)::s.heap,s.bN+1⟩ (w.alloc o)/\Ext G s w (G.put s.bN r) ⟨(s.bN,blk)::s.heap,s.bN+1⟩ (w.alloc o):=by
 have eR:ss G (G.put s.bN r):=.put (h.cj _ (fw _));have tq: ∀id b,bn s.heap id=some b->id≠s.bN:=λid b hg e=>by
  have:=h.lt id b hg;omega
 have jF: ∀id b,bn ((s.bN,blk)::s.heap) id=some b->(id=s.bN/\b=blk)\/(id≠s.bN/\bn s.heap id=some b):=λid b hg=>by
  simp only[df,cG]at hg;split at hg
  ·cases hg;exact .inl ⟨by omega,rfl⟩
  ·exact .inr ⟨by omega,hg⟩
 have je: ∀id,id≠s.bN->(G.put s.bN r).own id=G.own id:=λid fG=>by simp[bS.put,fG]
 have ot:(G.put s.bN r).own s.bN=some r:=by simp[bS.put]
 refine⟨⟨?_,?_,?_,?_,?_,?_⟩,⟨eR,rfl,rfl,rfl,by simp,?_,?_,?_,?_,by simp,λid hg=>by simp only[df,cG];rw[fN (λe=>tq id _ hg e.symm)];exact hg,λid hl ho=>by rw[je id (by omega)];exact ho,fw _⟩⟩
 ·refine⟨λb i v hi=>?_,h.lW.2⟩;have hb:=h.qg hi;rw[vo hb];exact h.ig b i v hi
 ·intro id b hg;rcases jF id b hg with⟨rfl,rfl⟩|⟨fG,hg⟩
  ·exact .inl ⟨r,o,ot,by rw[hr];show(w.heap.push o)[w.heap.size]? =some o;simp,hh⟩
  ·rcases h.heap id b hg with⟨r',o',e1,e2,e3⟩|⟨e1,e2⟩
   ·have kc:=h.jE hg e1;exact .inl ⟨r',o',by rw[je id fG];exact e1,by rw[Below.heap_alloc _ _ _ kc];exact e2,e3.mono eR⟩
   ·exact .inr ⟨by rw[je id fG];exact e1,e2⟩
 ·intro id fq b b' r1 r2 h1 h2 o1 o2 fG;rcases jF id b h1 with⟨rfl,rfl⟩|⟨n1,g1⟩<;>rcases jF fq b' h2 with⟨rfl,rfl⟩|⟨n2,g2⟩
  ·exact absurd rfl fG
  ·rw[ot]at o1;cases o1;rw[je _ n2]at o2;have:=h.jE g2 o2;omega
  ·rw[ot]at o2;cases o2;rw[je _ n1]at o1;have:=h.jE g1 o1;omega
  ·rw[je _ n1]at o1;rw[je _ n2]at o2;exact h.apart id fq b b' r1 r2 g1 g2 o1 o2 fG
 ·intro id b r1 i hg ho;rcases jF id b hg with⟨rfl,rfl⟩|⟨n1,g1⟩
  ·rw[ot]at ho;cases ho;cases hi:G.ig r.block i with
   |none=>exact hi
   |some v=>have:=h.qg hi;omega
  ·rw[je _ n1]at ho;exact h.clear id b r1 i g1 ho
 ·intro id nD;rw[je id (by simp at nD;omega)];exact h.cj id (by simp at nD;omega)
 ·intro id b hg;show id<s.bN+1;rcases jF id b hg with⟨rfl,rfl⟩|⟨fG,hg⟩
  ·omega
  ·have:=h.lt id b hg;omega
 ·intro b hb _;exact Below.heap_alloc _ _ _ hb
 ·intro b i v hi;exact .inl hi
 ·intro id r' hi;simp only[bS.put]at hi;split at hi
  ·cases hi;exact .inr (.inl (by omega))
  ·exact .inl hi
 ·intro id b hg;rcases jF id b hg with⟨rfl,rfl⟩|⟨_,g⟩
  ·exact .inr (fw _)
  ·exact .inl ⟨_,g⟩
theorem eG.drop{G:bS}{s s':St}{w:World}(h:eG G s w)(hh: ∀id b,bn s'.heap id=some b->bn s.heap id=some b)(hc:s.bN<=s'.bN):eG G s' w:=
 ⟨h.lW,λid b hg=>h.heap id b (hh id b hg),λid fq b b' r r' h1 h2=>h.apart id fq b b' r r' (hh _ _ h1) (hh _ _ h2),λid b r o hg=>h.clear id b r o (hh _ _ hg),λid nD=>h.cj id (by omega),λid b hg=>RU (h.lt id b (hh id b hg)) hc⟩
theorem Ext.drop{G:bS}{s s':St}{w:World}(hh: ∀id b,bn s'.heap id=some b->bn s.heap id=some b)(hc:s.bN<=s'.bN)
  (hd: ∀id,bn s.heap id=some .gq->bn s'.heap id=some .gq):Ext G s w G s' w:=
 {Ext.refl G s w with ids:=λid b hg=>.inl ⟨b,hh id b hg⟩,bN:=hc,gq:=hd}
theorem eG.drew{G:bS}{s:St}{w:World}(h:eG G s w):eG G s w.drew:=⟨h.lW,h.heap,h.apart,h.clear,h.cj,h.lt⟩
theorem Ext.drew(G:bS)(s:St)(w:World):Ext G s w G s w.drew:={Ext.refl G s w with keep:=λ_ _ _=>rfl,size:=fw _,drawn:=Nat.le_succ _}
def bS.ib(G:bS)(b:Nat)(cs:Array Value):bS:={ig:=λb' o=>if b'=b then cs[o]? else G.ig b' o,own:=G.own}
theorem ss.ib{G:bS}{b:Nat}{cs:Array Value}(h: ∀o v,G.ig b o=some v->cs[o]? =some v):ss G (G.ib b cs):=
 ⟨λb' o v hi=>by
  simp only[bS.ib]
  grind,λ_ _ h=>h⟩
theorem eG.Tf{G:bS}{s:St}{w:World}(h:eG G s w)(cs:Array Value)(t:TypeId):
  eG (G.ib w.heap.size cs) s (w.alloc (.cells cs t))/\Ext G s w (G.ib w.heap.size cs) s (w.alloc (.cells cs t)):=by
 have hn: ∀o v,G.ig w.heap.size o=some v->cs[o]? =some v:=λo v hi=>by have:=h.qg hi;omega
 have eR:ss G (G.ib w.heap.size cs):=.ib hn;refine⟨⟨?_,?_,?_,?_,?_,h.lt⟩,⟨eR,rfl,rfl,rfl,by simp,?_,?_,?_,?_,fw _,λ_ h=>h,λ_ _ h=>h,fw _⟩⟩
 ·refine⟨λb o v hi=>?_,.mono eR.ig h.lW.2⟩;simp only[bS.ib]at hi;split at hi
  ·simp_all
  ·have hb:=h.qg hi;rw[vo hb];exact h.ig b o v hi
 ·intro id b hg;rcases h.heap id b hg with⟨r',o',e1,e2,e3⟩|e
  ·have kc:=h.jE hg e1;exact .inl ⟨r',o',e1,by grind [Below.heap_alloc],e3.mono eR⟩
  ·exact .inr e
 ·exact h.apart
 ·intro id b r o hg ho;have kc:=h.jE hg ho;simp only[bS.ib];split
  ·omega
  ·exact h.clear id b r o hg ho
 ·exact h.cj
 ·grind [Below.heap_alloc]
 ·intro b o v hi;simp only[bS.ib]at hi
  grind
 ·intro id r hi;exact .inl hi
 grind
theorem eG.freeze{G:bS}{s:St}{w:World}(h:eG G s w){id cq:Nat}{elems:List AV}{r:tx}{cs:Array Value}{e:TypeId}(hg:bn s.heap id=some (.cells cq elems))
  (ho:G.own id=some r) (hw:w.heap[r.block]? =some (.cells cs e (0,0))):
  eG (G.ib r.block cs) ⟨dZ s.heap id,s.bN⟩ w/\Ext G s w (G.ib r.block cs) ⟨dZ s.heap id,s.bN⟩ w:=by
 have eR:ss G (G.ib r.block cs):=.ib λo v hi=>by rw[h.clear id _ r o hg ho]at hi;cases hi
 have gd: ∀i b,bn (dZ s.heap id) i=some b->i≠id/\bn s.heap i=some b:=λi b hi=>by
  grind [fO]
 refine⟨⟨?_,?_,?_,?_,?_,λi b hi=>h.lt i b (gd i b hi).2⟩,⟨eR,rfl,rfl,rfl,fw _,λ_ _ _=>rfl,?_,?_,?_,fw _,λi hi=>by rw[fO,fN (λe=>by grind)];exact hi,λ_ _ h=>h,fw _⟩⟩
 ·refine⟨λb o v hi=>?_,.mono eR.ig h.lW.2⟩;simp only[bS.ib]at hi;split at hi
  ·subst_vars;simp[World.cell?,hw,hi]
  ·exact h.ig b o v hi
 ·intro i b hi;rcases h.heap i b (gd i b hi).2 with⟨r',o',e1,e2,e3⟩|e
  ·exact .inl ⟨r',o',e1,e2,e3.mono eR⟩
  ·exact .inr e
 ·intro i i' b b' r1 r2 h1 h2;exact h.apart i i' b b' r1 r2 (gd _ _ h1).2 (gd _ _ h2).2
 ·intro i b r1 o hi LJ;simp only[bS.ib];split
  ·rename_i hb;exact absurd hb (h.apart i id b _ r1 r (gd i b hi).2 hg LJ ho (gd i b hi).1)
  ·exact h.clear i b r1 o (gd i b hi).2 LJ
 ·exact h.cj
 ·intro b o v hi;simp only[bS.ib]at hi;split at hi
  ·exact .inr (.inr ⟨id,_,r,hg,ho,by omega⟩)
  grind
 ·intro i r' hi;exact .inl hi
 grind
theorem eG.turn{G:bS}{s:St}{w w':World}(h:eG G s w){id:Nat}{blk sD:gM}{r:tx}{o:Obj}(hg:bn s.heap id=some blk)(ho:G.own id=some r)
  (hs:w'.heap.size=w.heap.size) (hos:w'.os=w.os) (ht:w'.tape=w.tape) (As:w'.output=w.output)
  (hk: ∀b,b≠r.block->w'.heap[b]? =w.heap[b]?) (hw:w'.heap[r.block]? =some o) (hh:Holds G r sD o) (tC:blk≠ .gq) (PB:w.drawn<=w'.drawn:=by exact fw _):
  eG G ⟨dM s.heap id sD,s.bN⟩ w'/\Ext G s w G ⟨dM s.heap id sD,s.bN⟩ w':=by
 have gs: ∀i b,bn (dM s.heap id sD) i=some b->(i=id/\b=sD)\/(i≠id/\bn s.heap i=some b):=λi b hi=>by
  grind [eK]
 have P0: ∀i b,bn (dM s.heap id sD) i=some b-> ∃b0,bn s.heap i=some b0:=λi b hi=>by
  grind
 refine⟨⟨?_,?_,?_,?_,?_,λi b hi=>let⟨b0,Gi⟩:=P0 i b hi;h.lt i b0 Gi⟩,⟨.refl G,hos,ht,As,by omega,?_,?_,?_,?_,fw _,λi hi=>by rw[eK,fN (λe=>by grind)];exact hi,λ_ _ h=>h,PB⟩⟩
 ·refine⟨λb i v hi=>?_,h.lW.2⟩;have fG:b≠r.block:=λe=>by subst e;rw[h.clear id _ r i hg ho]at hi;cases hi
  have:=h.ig b i v hi
  grind [World.cell?_of_block]
 ·intro i b hi;rcases gs i b hi with⟨rfl,rfl⟩|⟨fG,hb⟩
  ·grind
  ·rcases h.heap i b hb with⟨r',o',e1,e2,e3⟩|e
   ·exact .inl ⟨r',o',e1,by rw[hk _ (h.apart i id b _ r' r hb hg e1 ho fG)];exact e2,e3⟩
   grind
 ·intro i i' b b' r1 r2 h1 h2 o1 o2 fG;obtain⟨b1,g1⟩:=P0 i b h1;obtain⟨b2,g2⟩:=P0 i' b' h2;exact h.apart i i' b1 b2 r1 r2 g1 g2 o1 o2 fG
 ·intro i b r1 j hi LJ;obtain⟨b1,g1⟩:=P0 i b hi;exact h.clear i b1 r1 j g1 LJ
 ·exact h.cj
 ·intro b hb hn;exact hk b λe=>hn ⟨id,blk,r,hg,ho,e.symm⟩
 all_goals grind
theorem L8:de []=[]:=rfl
theorem jl(x:AV)(l:List AV):de (x::l)=x.cells++de l:=by simp[de]
theorem dx(a b:List AV):de (a++b)=de a++de b:=by simp[de]
theorem dD{cq:Nat}{l:List AV}(h: ∀e∈l,e.cells.length=cq):(de l).length=l.length*cq:=by
 induction l with
 |nil=>simp[de]
 |cons x r ih=>
  grind [jl]
theorem oS{cq:Nat}{l:List AV}(h: ∀e∈l,e.cells.length=cq){i:Nat}{e:AV}(he:l[i]? =some e)(j:Nat)(x:AV)(hx:e.cells[j]? =some x):
  (de l)[i*cq+j]? =some x:=by
 induction l generalizing i with
 |nil=>simp at he
 |cons y r ih=>
  rw[jl];cases i with
  |zero=>
   grind
  |succ i=>
   grind
theorem xS{cq:Nat}{l:List AV}(h: ∀e∈l,e.cells.length=cq)(h0:0<cq){k:Nat}{x:AV}(hx:(de l)[k]? =some x):
  ∃e,l[k / cq]? =some e/\e.cells[k%cq]? =some x:=by
 have hk:k<l.length*cq:=by grind [dD]
 grind [Nat.div_lt_of_lt_mul,Nat.mul_comm,Nat.mod_lt,oS,Nat.div_add_mod]
theorem VL.cells{G:bS}{x:AV}{v:Value}(h:V G x v)(hx:x≠ .any):VL G x.cells v.cells:=by
 have one: ∀{x:AV}{v:Value},V G x v->x.cells=[x]->v.cells= #[v]->VL G x.cells v.cells:=λ{x v}h hx hv=>by
  rw[hx,hv];refine⟨rfl,λi a b ha hb=>?_⟩;cases i with
  |zero=>simp at ha hb;subst ha;subst hb;exact h
  |succ i=>simp at ha
 cases h with
 |any=>exact absurd rfl hx
 |agg cs vs dK h=>exact⟨dK,h⟩
 |bool b=>exact one (.bool b) rfl rfl
 |int k n=>exact one (.int k n) rfl rfl
 |str s=>exact one (.str s) rfl rfl
 |jN=>exact one .jN rfl rfl
 |nB=>exact one .nB rfl rfl
 |slnil full bG cap hf hb=>exact one (.slnil full bG cap hf hb) rfl rfl
 |sl full elems b off cq cap val jC jX eo kI gE hV=>exact one (.sl full elems b off cq cap val jC jX eo kI gE hV) rfl rfl
 |ip cells b off val gE hV=>exact one (.ip cells b off val gE hV) rfl rfl
 |mp id el off r h=>exact one (.mp id el off r h) rfl rfl
 |ms id bq len cap r addr h eR ga ha=>exact one (.ms id bq len cap r addr h eR ga ha) rfl rfl
 |gO id bq cap bG hc=>exact one (.gO id bq cap bG hc) rfl rfl
 |mc id bq len cap r addr h eR ga ha=>exact one (.mc id bq len cap r addr h eR ga ha) rfl rfl
 |mE id bq bG=>exact one (.mE id bq bG) rfl rfl
 |fn f fi vs dK h=>exact one (.fn f fi vs dK h) rfl rfl
 |kK id r h=>exact one (.kK id r h) rfl rfl
 |dS cs vs dK h=>exact one (.dS cs vs dK h) rfl rfl
theorem VL.get{G:bS}{cs:List AV}{vs:Array Value}(h:VL G cs vs){k:Nat}{x:AV}(hx:cs[k]? =some x): ∃v,vs[k]? =some v/\V G x v:=by
 have hk:k<vs.size:=by rw[<-h.1];grind
 exact⟨vs[k],RV hk,h.2 k x _ hx (RV hk)⟩
end Go.Am
end
section
namespace Go.Am
open Go.RowKit
def xT:Value->Option AV
 |.bool b=>some (.bool b)
 |.int k n=>some (.int k n)
 |.string s=>some (.str s)
 |.pointer none=>some .jN
 |.nilFunc=>some .nB
 |.slice none 0 0=>some (.sl true [])
 |_=>none
def tD:List Value->Option (List AV)
 | []=>some []
 |v::r=>match xT v,tD r with
  |some x,some l=>some (x::l)
  |_,_=>none
def ofValue:Value->Option AV
 |.agg cs=>match tD cs.toList with
  |some l=>some (.agg l)
  |none=>none
 |v=>xT v
def cK(P:Program)(t:TypeId):Option Nat:=(P.info? t).map (·.size)
def mn(P:Program)(t:TypeId):Option Nat:=(P.info? t).map (·.bytes)
def DC(P:Program)(t:TypeId):Option Bool:=(P.underlying t).map λ|.struct _|.array _ _=>true|_=>false
def iT(P:Program)(t:TypeId):Option AV:=match(P.info? t).map (·.zero)with
 |some (some v)=>ofValue v
 |_=>none
def dy(P:Program)(t:TypeId):Option TypeId:=match P.underlying t with
 |some (.slice e)=>some e
 |_=>none
def tF(P:Program)(t:TypeId):Option (Nat×TypeId):=match P.underlying t with
 |some (.array n e)=>some (n,e)
 |_=>none
def aab(P:Program)(t:TypeId):Bool:=match tF P t with
 |some (m,e)=>Nat.blt 8 (m*(cK P e).getD 1)
 |none=>false
def xU(P:Program)(t:TypeId):Option AV:=bif aab P t then none else iT P t
theorem BZ{P:Program}{t:TypeId}{z:AV}(h:xU P t=some z):iT P t=some z:=by
 unfold xU at h
 grind
def rX(P:Program)(t:TypeId):Bool:=match P.underlying t with
 |some .string=>true
 |_=>false
def Au(P:Program)(t:TypeId):Option IntKind:=match P.underlying t with
 |some (.int k)=>some k
 |_=>none
def nN(P:Program)(t:TypeId)(i:Nat):Option (Nat×Nat):=match P.underlying t with
 |some (.struct fs)=>match fs[i]? with
  |some f=>match cK P f.type with
   |some n=>some (f.offset,n)
   |none=>none
  |none=>none
 |_=>none
def xn(P:Program)(t:TypeId):Bool:=match P.underlying t with
 |some (.struct fs)=>fs.toList.all λf=>(cK P f.type).isSome
 |_=>false
def B0(P:Program)(t:TypeId)(i:Nat):Option TypeId:=match P.underlying t with
 |some (.struct fs)=>(fs[i]?).map (·.type)
 |_=>none
def oper(bf:Env):Operand->Option AV
 |.tmp t=>bn bf t
 |.const v=>ofValue v
 |.func f=>some (.fn f [])
 |.global _=>none
def opers(bf:Env):List Operand->Option (List AV)
 | []=>some []
 |x::r=>match oper bf x,opers bf r with
  |some v,some l=>some (v::l)
  |_,_=>none
def kM(s:St):AV->Option (List AV)
 |.mp id el off=>match bn s.heap id with
  |some (.cells _ elems)=>match elems[el]? with
   |some e=>some (e.cells.drop off)
   |none=>none
  |_=>none
 |.ip cells=>some cells
 |_=>none
def nE(P:Program)(t:TypeId)(cs:List AV):Option AV:=
 match DC P t with
 |some true=>match cK P t with
  |some n=>if n<=cs.length then some (.agg (cs.take n))else none
  |none=>none
 |some false=>match cs with
  |x::_=>some x
  | []=>none
 |none=>none
def nG(P:Program)(t:TypeId)(p:AV)(s:St):Option AV:=
 match kM s p with
 |some cs=>nE P t cs
 |none=>none
def jq(cs:List AV)(off:Nat)(new:List AV):List AV:=cs.take off++(new++cs.drop (off+new.length))
def oT(e:AV)(cs:List AV):AV:=match e with
 |.agg _=>.agg cs
 |_=>match cs with
  |x::_=>x
  | []=>.any
def sF(P:Program)(t:TypeId)(p v:AV)(s:St):Option St:=
 match p with
 |.mp id el off=>match bn s.heap id with
  |some (.cells cq elems)=>match elems[el]? with
   |some e=>if cK P t=some v.cells.length/\off+v.cells.length<=e.cells.length/\v.cells.all AV.cJ=true then
     some ⟨dM s.heap id (.cells cq (elems.set el (oT e (jq e.cells off v.cells)))),s.bN⟩
    else none
   |none=>none
  |_=>none
 |_=>none
def B2(v:AV)(s:St):Option (AV×St):=
 if 0<v.cells.length/\v.cells.all AV.cJ=true then some (.mp s.bN 0 0,⟨(s.bN,.cells v.cells.length [v])::s.heap,s.bN+1⟩)else none
def chunk(n:Nat):Nat->List AV->List AV
 |0,_=>[]
 |k+1,l=>(bif Nat.beq n 1 then l.headD .any else .agg (l.take n))::chunk n k (l.drop n)
def DD(P:Program)(t:TypeId)(v:AV)(s:St):Option (AV×St):=match tF P t with
 |some (m,e)=>match cK P e with
  |some n=>bif Nat.blt 0 m&&(Nat.blt 0 n&&(Nat.beq v.cells.length (m*n)&&v.cells.all AV.cJ))then some (.mp s.bN 0 0,⟨(s.bN,.cells n (chunk n m v.cells))::s.heap,s.bN+1⟩)else none
  |none=>none
 |none=>none
def xV(P:Program)(t:TypeId)(p:AV)(i:Nat):Option AV:=
 match nN P t i with
 |some (off,n)=>if n=0 then none else match p with
  |.mp id el o=>some (.mp id el (o+off))
  |.ip cells=>some (.ip (cells.drop off))
  |_=>none
 |none=>none
def L9(P:Program)(t:TypeId)(x:AV)(off:Nat):Option AV:=match x with
 |.agg cs=>nE P t (cs.drop off)
 |_=>none
def tG(P:Program)(t:TypeId)(x:AV)(i:Nat):Option AV:=
 match nN P t i,B0 P t i with
 |some (off,_),some ft=>L9 P ft x off
 |_,_=>none
def eC(P:Program)(t:TypeId)(x:AV)(i:AV)(s:St):Option AV:=
 match i with
 |.int _ n=>match dy P t with
  |some e=>match x with
   |.sl _ elems=>if 0<=n then match elems[n.toNat]? with
     |some y=>if cK P e=some y.cells.length then some (.ip y.cells)else none
     |none=>none
    else none
   |.ms id bq len=>match bn s.heap id with
    |some (.cells cq _)=>if 0<=n/\n<len/\cK P e=some cq then some (.mp id (bq+n.toNat) 0)else none
    |_=>none
   |_=>none
  |none=>match tF P t with
   |some (m,e)=>match cK P e with
    |some sz=>if 0<=n/\n<m then match x with
      |.mp id el off=>bif Nat.blt 8 (m*sz)then(match bn s.heap id with
       |some (.cells cq _)=>if cq=sz/\off=0 then some (.mp id (el+n.toNat) 0)else none
       |_=>none)else some (.mp id el (off+n.toNat*sz))
      |.ip cells=>some (.ip (cells.drop (n.toNat*sz)))
      |_=>none
     else none
    |none=>none
   |none=>none
 |_=>none
def oU(P:Program)(t:TypeId)(x:AV)(i:AV):Option AV:=
 match i with
 |.int _ n=>match x with
  |.str b=>if rX P t=true/\0<=n then match b[n.toNat]? with
    |some c=>some (.int .u8 c.toNat)
    |none=>none
   else none
  |.agg cs=>match tF P t with
   |some (m,e)=>match cK P e with
    |some sz=>if 0<=n/\n<m then nE P e (cs.drop (n.toNat*sz))else none
    |none=>none
   |none=>none
  |_=>none
 |_=>none
def gh(bf:Env)(x:Option Operand)(d:Nat):Option Nat:=match x with
 |none=>some d
 |some o=>match oper bf o with
  |some (.int _ n)=>if 0<=n then some n.toNat else none
  |_=>none
def kf(P:Program)(t:TypeId)(x:AV)(bf:Env)(lo hi mx:Option Operand)(s:St):Option AV:=
 match x with
 |.str b=>if rX P t=true/\mx.isNone=true then match gh bf lo 0,gh bf hi b.size with
   |some l,some h=>if l<=h/\h<=b.size then some (.str (b.extract l h))else none
   |_,_=>none
  else none
 |.sl full elems=>match dy P t with
  |some e=>match gh bf lo 0,gh bf hi elems.length,mx with
   |some l,some h,none=>if l<=h/\h<=elems.length/\(∀y∈elems.head?,cK P e=some y.cells.length)/\(cK P e).isSome=true then
     some (.sl (full&&h==elems.length) ((elems.take h).drop l))else none
   |some l,some h,some m=>match gh bf (some m) 0 with
    |some m=>if l<=h/\h<=m/\m<=elems.length/\hi.isSome=true/\(∀y∈elems.head?,cK P e=some y.cells.length)/\(cK P e).isSome=true then
      some (.sl (m==h) ((elems.take h).drop l))else none
    |none=>none
   |_,_,_=>none
  |none=>none
 |.ms id bq len=>match dy P t with
  |some e=>match bn s.heap id with
   |some (.cells cq _)=>match gh bf lo 0,gh bf hi len,mx with
    |some l,some h,none=>if l<=h/\h<=len/\cK P e=some cq then some (.ms id (bq+l) (h-l))else none
    |some l,some h,some m=>match gh bf (some m) 0 with
     |some m=>if l<=h/\h<=m/\m<=len/\hi.isSome=true/\cK P e=some cq then some (.ms id (bq+l) (h-l))else none
     |none=>none
    |_,_,_=>none
   |_=>none
  |none=>none
 |.mc id bq len cap=>match dy P t with
  |some e=>match bn s.heap id with
   |some (.cells cq _)=>match gh bf lo 0,gh bf hi len,mx with
    |some l,some h,none=>if l<=h/\h<=cap/\cK P e=some cq then some (.mc id (bq+l) (h-l) (cap-l))else none
    |_,_,_=>none
   |_=>none
  |none=>none
 |_=>none
def fk(x:AV)(s:St):Option (List AV):=match x with
 |.sl _ elems=>some elems
 |.ms id bq len=>match bn s.heap id with
  |some (.cells _ elems)=>if bq+len<=elems.length then some ((elems.drop bq).take len)else none
  |_=>none
 |_=>none
def fits(P:Program)(e:TypeId)(l:List AV):Prop:= ∀y∈l.head?,cK P e=some y.cells.length
instance (P:Program) (e:TypeId) (l:List AV):Decidable (fits P e l):=by unfold fits;exact inferInstance
def jS(P:Program)(e:TypeId)(x:AV)(s:St):Prop:=match x with
 |.sl _ elems=>fits P e elems
 |.ms id _ _=>match bn s.heap id with
  |some (.cells cq _)=>cK P e=some cq
  |_=>False
 |_=>False
instance (P:Program) (e:TypeId) (x:AV) (s:St):Decidable (jS P e x s):=by
 unfold jS;split
 ·exact inferInstance
 ·split<;>exact inferInstance
 ·exact inferInstance
def bc:Nat:=4294967296
def nO(P:Program)(e:TypeId)(sz:Nat):Bool:=match iT P e with
 |some z=>z.cells.length==sz&&z.cells.all AV.cJ
 |none=>false
def eX(P:Program)(t:TypeId)(x:AV)(new:List AV)(s:St):Option (AV×St):=
 match dy P t with
 |some e=>match cK P e,mn P e with
  |some sz,some vp=>if 0<sz/\vp<=4096/\nO P e sz=true then
    match x with
    |.sl full elems=>if new=[]then some (.sl full elems,s)else
     if full=true/\elems.length+new.length<=bc/\fits P e elems then
      some (.ms s.bN 0 (elems.length+new.length),⟨(s.bN,.cells sz (elems++new))::s.heap,s.bN+1⟩)else none
    |.ms id bq len=>if new=[]then some (.ms id bq len,s)else
     match bn s.heap id with
     |some (.cells cq elems)=>if cq=sz/\bq+len<=elems.length/\len+new.length<=bc then
       some (.ms s.bN 0 (len+new.length),⟨(s.bN,.cells sz ((elems.drop bq).take len++new))::dZ s.heap id,s.bN+1⟩)else none
     |_=>none
    |.mc id bq len cap=>match bn s.heap id with
     |some (.cells cq elems)=>if new≠[]/\cq=sz/\bq+len<=elems.length/\cap<len+new.length/\len+new.length<=bc then
       some (.ms s.bN 0 (len+new.length),⟨(s.bN,.cells sz ((elems.drop bq).take len++new))::s.heap,s.bN+1⟩)else none
     |_=>none
    |_=>none
   else none
  |_,_=>none
 |none=>none
def pJ(P:Program)(t:TypeId)(x:AV)(new:List AV)(s:St):Option (AV×St):=
 match dy P t with
 |some e=>match x with
  |.ms id bq len=>match bn s.heap id with
   |some (.cells cq elems)=>if cK P e=some cq/\bq+len<=elems.length then
    let n:=min new.length len
    some (.int .i64 n,⟨dM s.heap id (.cells cq (elems.take bq++(new.take n++elems.drop (bq+n)))),s.bN⟩)else none
   |_=>none
  |.mc id bq len _=>match bn s.heap id with
   |some (.cells cq elems)=>if cK P e=some cq/\bq<=elems.length then
    let n:=min new.length len
    some (.int .i64 n,⟨dM s.heap id (.cells cq (elems.take bq++(new.take n++elems.drop (bq+n)))),s.bN⟩)else none
   |_=>none
  |.sl _ elems=>if min new.length elems.length=0/\(cK P e).isSome=true then some (.int .i64 0,s)else none
  |_=>none
 |none=>none
def P2:AV->Option Nat
 |.sl _ l=>some l.length
 |.ms _ _ n=>some n
 |.mc _ _ n _=>some n
 |_=>none
def vq(P:Program)(t:TypeId)(x:AV)(id bq len:Nat)(s:St):Option (AV×St):=
 match dy P t,bn s.heap id,P2 x with
 |some e,some (.cells cq elems),some n=>if cK P e=some cq/\bq+min len n<=elems.length then pJ P t x ((elems.drop bq).take (min len n)) s else none
 |_,_,_=>none
def Tg(P:Program)(t:TypeId)(x:AV):Option AV:=match x with
 |.mc _ _ _ cap=>if(dy P t).isSome=true then some (.int .i64 cap)else none
 |.sl true elems=>if(dy P t).isSome=true then some (.int .i64 elems.length)else none
 |_=>none
def Gj(P:Program)(t:TypeId)(x:AV)(s:St):Option (AV×St):=match dy P t,x with
 |some e,.ms id bq len=>match bn s.heap id,iT P e with
  |some (.cells cq elems),some z=>if cK P e=some cq/\z.cells.length=cq/\z.cells.all AV.cJ=true/\bq+len<=elems.length then
   some (.dS [],⟨dM s.heap id (.cells cq (elems.take bq++(List.replicate len z++elems.drop (bq+len)))),s.bN⟩)else none
  |_,_=>none
 |_,_=>none
def wW(P:Program)(t:TypeId)(x:AV):Option AV:=match x with
 |.mc _ _ len _=>if(dy P t).isSome=true then some (.int .i64 len)else none
 |.sl _ elems=>if(dy P t).isSome=true then some (.int .i64 elems.length)else none
 |.ms _ _ len=>if(dy P t).isSome=true then some (.int .i64 len)else none
 |.str b=>if rX P t=true then some (.int .i64 b.size)else none
 |_=>match tF P t with
  |some (n,_)=>some (.int .i64 n)
  |none=>none
def xW(P:Program)(t:TypeId)(l c:AV)(s:St):Option (AV×St):=
 match l,c,dy P t with
 |.int _ n,.int _ m,some e=>match cK P e,mn P e,iT P e with
  |some sz,some vp,some z=>if 0<=n/\n<=m/\m<=bc/\0<sz/\z.cells.length=sz/\z.cells.all AV.cJ=true/\vp<=4096 then
   some (.ms s.bN 0 n.toNat,⟨(s.bN,.cells sz (List.replicate n.toNat z))::s.heap,s.bN+1⟩)else none
  |_,_,_=>none
 |_,_,_=>none
def wX(op:BinOp)(k:IntKind)(x y:Int):Option AV:=match op with
 |.add=>some (.int k (k.wrap (x+y)))
 |.sub=>some (.int k (k.wrap (x-y)))
 |.mul=>some (.int k (k.wrap (x*y)))
 |.quo=>if y=0 then none else some (.int k (k.wrap (x.tdiv y)))
 |.rem=>if y=0 then none else some (.int k (x.tmod y))
 |.eql=>some (.bool (decide (x=y)))
 |.neq=>some (.bool (decide (x≠y)))
 |.lss=>some (.bool (decide (x<y)))
 |.leq=>some (.bool (decide (x<=y)))
 |.gtr=>some (.bool (decide (y<x)))
 |.geq=>some (.bool (decide (y<=x)))
 |.shl=>if y<0 then none else some (.int k (k.wrap (x*2^(min y.toNat k.bits))))
 |.shr=>if y<0 then none else some (.int k (x.fdiv (2^(min y.toNat k.bits))))
 |.and|.or|.xor|.andNot=>none
def rh(P:Program)(eq:TypeId->AV->AV->Option Bool)(xs ys:List AV):List Field->Option Bool
 | []=>some true
 | f :: fs => if f.name = "_" then none else
  match nE P f.type (xs.drop f.offset),nE P f.type (ys.drop f.offset)with
  |some a,some b=>match eq f.type a b,rh P eq xs ys fs with
   |some r,some r'=>some (r&&r')
   |_,_=>none
  |_,_=>none
def PC(P:Program):Nat->TypeId->AV->AV->Option Bool
 |0,_,_,_=>none
 |d+1,t,x,y=>
  match P.underlying t,x,y with
  |some .bool,.bool a,.bool b=>some (a==b)
  |some (.int _),.int k a,.int k' b=>if k=k' then some (decide (a=b))else none
  |some .string,.str a,.str b=>some (a.toList==b.toList)
  |some (.pointer _),.jN,.jN=>some true
  |some (.pointer _),.jN,.mp _ _ _=>some false
  |some (.pointer _),.mp _ _ _,.jN=>some false
  |some (.func _ _ _),.nB,.nB=>some true
  |some (.func _ _ _),.nB,.fn _ _=>some false
  |some (.func _ _ _),.fn _ _,.nB=>some false
  |some (.struct fs),.agg xs,.agg ys=>if P.stoodInHeld t=true then none else rh P (PC P d) xs ys fs.toList
  |_,_,_=>none
def AV.isInt:AV->Bool
 |.int _ _=>true
 |_=>false
def Av(P:Program)(op:BinOp)(t:TypeId)(x y:AV):Option AV:=
 match x,y with
 |.int k a,.int k' b=>match op with
  |.shl|.shr=>wX op k a b
  |_=>if k=k' then wX op k a b else none
 |.str a,.str b=>match op with
  |.add=>if a.size+b.size<=maxLen then some (.str (a++b))else none
  |.eql=>some (.bool (a.toList==b.toList))
  |.neq=>some (.bool !(a.toList==b.toList))
  |.lss=>some (.bool (Op.bytesLess a.toList b.toList))
  |.geq=>some (.bool !(Op.bytesLess a.toList b.toList))
  |.leq=>some (.bool (Op.bytesLess a.toList b.toList||a.toList==b.toList))
  |.gtr=>some (.bool !(Op.bytesLess a.toList b.toList||a.toList==b.toList))
  |_=>none
 |x,y=>if P.eqGuardType P.depth t=true then none else match op with
  |.eql=>match PC P 8 t x y with
   |some b=>some (.bool b)
   |none=>none
  |.neq=>match PC P 8 t x y with
   |some b=>some (.bool !b)
   |none=>none
  |_=>none
def aUn(op:UnOp)(x:AV):Option AV:=match op,x with
 |.not,.bool b=>some (.bool !b)
 |.neg,.int k n=>some (.int k (k.wrap (0-n)))
 |_,_=>none
def ou(P:Program)(src dst:TypeId)(x:AV):Option AV:=match x with
 |.int _ n=>if(P.underlying src).isSome=true then match Au P dst with
   |some k=>some (.int k (k.wrap n))
   |none=>none
  else none
 |.str b=>if(P.underlying src).isSome=true/\rX P dst=true then some (.str b)else none
 |_=>none
def su(bL:Nat->Option (Nat×Nat))(cells:List AV):List (Nat×AV)->Option (List AV)
 | []=>some cells
 |(i,v)::r=>match bL i with
  |some (off,n)=>if v.cells.length=n/\v.cells.all AV.cJ=true/\off+n<=cells.length then su bL (jq cells off v.cells) r else none
  |none=>none
def mq(bf:Env):List (Nat×Operand)->Option (List (Nat×AV))
 | []=>some []
 |(i,x)::r=>match oper bf x,mq bf r with
  |some v,some l=>some ((i,v)::l)
  |_,_=>none
def xX(P:Program)(t:TypeId)(bW:List (Nat×AV)):Option AV:=
 match iT P t with
 |some (.agg cs)=>if xn P t=true then match su (nN P t) cs bW with
   |some l=>some (.agg l)
   |none=>none
  else match tF P t with
  |some (_,e)=>match cK P e with
   |some sz=>match su (λi=>some (i*sz,sz)) cs bW with
    |some l=>some (.agg l)
    |none=>none
   |none=>none
  |none=>none
 |_=>none
def ow(l:List (Nat×AV))(i:Nat):Bool:=match l with
 | []=>true
 |(j,_)::r=>j==i&&ow r (i+1)
def gG(P:Program)(t:TypeId)(len:Nat)(bW:List (Nat×AV)):Option AV:=
 match dy P t with
 |some e=>match cK P e,iT P e with
  |some sz,some z=>if bW.length=len/\ow bW 0=true/\(∀p∈bW,p.2.cells.length=sz/\p.2.cells.all AV.cJ=true)/\len*sz<=16777216/\0<sz/\z.cells.length=sz then
   some (.sl true (bW.map (·.2)))else none
  |_,_=>none
 |none=>none
def P3:AV->AV->Option AV
 |.int k x,.int k' y=>if k=k' then some (.int k (if y<x then y else x))else none
 |_,_=>none
def P4:AV->AV->Option AV
 |.int k x,.int k' y=>if k=k' then some (.int k (if x<y then y else x))else none
 |_,_=>none
def wg(f:AV->AV->Option AV):AV->List AV->Option AV
 |x,[]=>some x
 |x,y::r=>match f x y with
  |some z=>wg f z r
  |none=>none
def fC(v:Option AV)(s:St):Option (AV×St):=match v with
 |some v=>some (v,s)
 |none=>none
def gH(P:Program)(op:Op)(bf:Env)(s:St):Option (AV×St):=
 match op with
 |.move x|.assign x=>fC (oper bf x) s
 |.pick c a b=>match oper bf c with
  |some (.bool t)=>if t then fC (oper bf a) s else fC (oper bf b) s
  |_=>none
 |.alloc t=>match xU P t with
  |some z=>B2 z s
  |none=>match iT P t with
   |some z=>DD P t z s
   |none=>none
 |.box _ x=>match oper bf x with
  |some v=>B2 v s
  |none=>none
 |.build t bW=>match mq bf bW.toList with
  |some l=>fC (xX P t l) s
  |none=>none
 |.buildSlice t len bW=>match mq bf bW.toList with
  |some l=>fC (gG P t len l) s
  |none=>none
 |.load t p=>match oper bf p with
  |some p=>fC (nG P t p s) s
  |none=>none
 |.store t p x=>match oper bf p,oper bf x with
  |some p,some x=>match sF P t p x s with
   |some s'=>some (.any,s')
   |none=>none
  |_,_=>none
 |.nilCheck x=>match oper bf x with
  |some (.mp id el off)=>some (.mp id el off,s)
  |some (.ip cells)=>some (.ip cells,s)
  |some (.fn f fi)=>some (.fn f fi,s)
  |_=>none
 |.binOp op t x y _=>match oper bf x,oper bf y with
  |some x,some y=>fC (Av P op t x y) s
  |_,_=>none
 |.unOp op _ x=>match oper bf x with
  |some x=>fC (aUn op x) s
  |none=>none
 |.convert src dst x=>match oper bf x with
  |some x=>fC (ou P src dst x) s
  |none=>none
 |.makeFunc (.func f) first fi=>if first.size=0 then match opers bf fi.toList with
   |some l=>some (.fn f l,s)
   |none=>none
  else none
 |.slice t x lo hi mx=>match oper bf x with
  |some x=>fC (kf P t x bf lo hi mx s) s
  |none=>none
 |.fieldAddr t x i=>match oper bf x with
  |some x=>fC (xV P t x i) s
  |none=>none
 |.field t x i=>match oper bf x with
  |some x=>fC (tG P t x i) s
  |none=>none
 |.indexAddr t x i=>match oper bf x,oper bf i with
  |some x,some i=>fC (eC P t x i s) s
  |_,_=>none
 |.index t x i=>match oper bf x,oper bf i with
  |some x,some i=>fC (oU P t x i) s
  |_,_=>none
 |.extract x i=>match oper bf x with
  |some (.dS vs)=>fC vs[i]? s
  |_=>none
 |.makeSlice t l c=>match oper bf l,oper bf c with
  |some l,some c=>xW P t l c s
  |_,_=>none
 |.call c=>match c.callee with
  |.builtin .len=>match opers bf c.args.toList,c.argTypes[0]? with
   |some [x],some t=>fC (wW P t x) s
   |_,_=>none
  |.builtin .append=>match opers bf c.args.toList,c.argTypes[0]?,c.argTypes[1]? with
   |some [x,y],some t,some u=>match y with
    |.int _ n=>match dy P t with
     |some e=>match iT P e with
      |some z=>if 0<=n/\n<=bc/\(Au P u).isSome=true/\cK P e=some z.cells.length/\z.cells.all AV.cJ=true then eX P t x (List.replicate n.toNat z) s else none
      |none=>none
     |none=>none
    |y=>match dy P t,fk y s with
     |some e,some new=>if jS P e y s/\(dy P u).isSome=true then eX P t x new s else none
     |_,_=>none
   |_,_,_=>none
  |.builtin .copy=>match opers bf c.args.toList,c.argTypes[0]? with
   |some [x,y],some t=>match y with
    |.mc id bq len _=>vq P t x id bq len s
    |y=>match dy P t,fk y s with
     |some e,some new=>if jS P e y s then pJ P t x new s else none
     |_,_=>none
   |_,_=>none
  |.builtin .cap=>match opers bf c.args.toList,c.argTypes[0]? with
   |some [x],some t=>fC (Tg P t x) s
   |_,_=>none
  |.builtin .clear=>match opers bf c.args.toList,c.argTypes[0]? with
   |some [x],some t=>Gj P t x s
   |_,_=>none
  |.builtin .min=>match opers bf c.args.toList with
   |some (x::r)=>fC (wg P3 x r) s
   |_=>none
  |.builtin .max=>match opers bf c.args.toList with
   |some (x::r)=>fC (wg P4 x r) s
   |_=>none
  |_=>none
 |_=>none
end Go.Am
end
section
namespace Go.Am
open Go.RowKit
def tt(o:Option Nat):Fence:={Fence.wide with round:=o}
def wY(G:bS)(ρ:Option Nat):Option Nat:=match ρ with
 |none=>none
 |some id=>(G.own id).map (·.block)
theorem qh{o:Option Nat}{n:Nat}{P:Program}{f:FuncId}{args:Array Value}{w:World}{R:Ending->World->Prop}(h:Calls P f args w R):CallsIn (tt o) n P f args w R:=
 have h':CallsIn Fence.wide n P f args w R:=callsIn_wide.2 h
 h'
def wZ(G:bS)(s:St)(w:World)(Q:AV->St->Prop)(e:Ending)(w':World):Prop:=
 ∃v G' x s',e=.returned v/\V G' x v/\eG G' s' w'/\Ext G s w G' s' w'/\Q x s'
theorem wZ.mono{G:bS}{s:St}{w:World}{Q Q':AV->St->Prop}{e:Ending}{w':World}(h:wZ G s w Q e w')(hq: ∀x s',Q x s'->Q' x s'):wZ G s w Q' e w':=
 let⟨v,G',x,s',a,b,c,d,q⟩:=h;⟨v,G',x,s',a,b,c,d,hq _ _ q⟩
def dw(P:Program)(f:FuncId)(args:List AV)(s:St)(Q:AV->St->Prop):Prop:=
 ∀G w vs,eG G s w->VL G args vs->Calls P f vs w (wZ G s w Q)
theorem dw.mono{P:Program}{f:FuncId}{args:List AV}{s:St}{Q Q':AV->St->Prop}(h:dw P f args s Q)(hq: ∀x s',Q x s'->Q' x s'):dw P f args s Q':=
 λG w vs hs hv=>(h G w vs hs hv).mono λ_ _ hg=>hg.mono hq
def ic(P:Program)(id:Nat)(args:List AV)(s:St)(Q:AV->St->Prop):Prop:=
 ∀o G w r vs,eG G s w->G.own id=some r->VL G args vs-> ∃fn tmps assign body,(Instr.yield r.block vs).run P w=.ok (.round r.block fn tmps assign body) w/\
  RoundIn (tt o) 0 P r.block fn tmps assign body w (wZ G s w Q)
theorem ic.mono{P:Program}{f:FuncId}{args:List AV}{s:St}{Q Q':AV->St->Prop}(h:ic P f args s Q)(hq: ∀x s',Q x s'->Q' x s'):ic P f args s Q':=
 λo G w r vs hs hr hv=>let⟨fn,tmps,assign,body,h1,h2⟩:=h o G w r vs hs hr hv;⟨fn,tmps,assign,body,h1,h2.mono λ_ _ hg=>hg.mono hq⟩
def oV(G:bS)(s:St):List Deferred->Prop
 | []=>True
 |d::ds=>(∃id r,bn s.heap id=some .gq/\G.own id=some r/\d.target=.collected r.block/\ ∀d'∈ds,∀b,d'.target=.collected b->b≠r.block)/\oV G s ds
theorem oV.ext{G G':bS}{s s':St}{w w':World}(h:Ext G s w G' s' w'): ∀{ds:List Deferred},oV G s ds->oV G' s' ds
 | [],_=>trivial
 |_::_,⟨⟨id,r,a,b,c,d⟩,hr⟩=>⟨⟨id,r,h.gq id a,h.le.own _ _ b,c,d⟩,oV.ext h hr⟩
def wi(G:bS)(ρ:Option Nat):Prop:= ∀id,ρ=some id-> ∃r,G.own id=some r
theorem Ii{G G':bS}{ρ:Option Nat}(h:ss G G')(hk:wi G ρ):wY G' ρ=wY G ρ:=by
 cases ρ with
 |none=>rfl
 |some id=>
  obtain⟨r,hr⟩:=hk id rfl;simp[wY,hr,h.own _ _ hr]
theorem wi.le{G G':bS}{ρ:Option Nat}(h:ss G G')(hk:wi G ρ):wi G' ρ:=λid e=>let⟨r,hr⟩:=hk id e;⟨r,h.own _ _ hr⟩
structure wj (G:bS) (N:Nat) (ρ:Option Nat) (bf:Env) (s:St) (a:Act) (w:World):Prop where
 iB:eG G s w
 bf:iL G bf a.tmps
 size:a.tmps.size=N
 mr:oV G s a.defers
 known:wi G ρ
def im(G:bS)(N:Nat)(ρ:Option Nat)(s:St)(w:World)(Q:Exit->Env->St->Prop)(e:Exit)(a':Act)(w':World):Prop:=
 ∃G' env' s',wj G' N ρ env' s' a' w'/\Ext G s w G' s' w'/\Q e env' s'
def gY(P:Program)(N:Nat)(ρ:Option Nat)(c:Code)(Q:Exit->Env->St->Prop)(bf:Env)(s:St):Prop:=
 ∀G w a,wj G N ρ bf s a w->c.wpIn (tt (wY G ρ)) 0 P (im G N ρ s w Q) a w
def J6(K:Env->St->Prop)(Q:Exit->Env->St->Prop):Exit->Env->St->Prop
 |.normal,bf,s=>K bf s
 |e,bf,s=>Q e bf s
def oW(id:Nat)(Q:Exit->Env->St->Prop):Exit->Env->St->Prop
 |.exit fq,bf,s=>if fq=id then Q .normal bf s else Q (.exit fq) bf s
 |e,bf,s=>Q e bf s
def eH(d:Option Nat)(v:AV)(bf:Env):Env:=match d with
 |some d=>dM bf d v
 |none=>bf
def enters(P:Program)(f:FuncId):Bool:=match P.funcs[f]? with
 | some fn => fn.name != "runtime.NumGoroutine" && fn.body.isSome
 |none=>false
def fW:Op->Option (Operand×List Operand)
 |.call {callee:=.value f,args,..}=>some (f,args.toList)
 |_=>none
def Wy(P:Program)(o:Oper)(K:AV->St->Prop)(bf:Env)(s:St):Prop:=
 match fW o.op with
 |some (f,args)=>match oper bf f,opers bf args with
  |some (.fn g fi),some l=>enters P g=true/\dw P g (l++fi) s K
  |some (.kK id),some l=>ic P id l s K
  |_,_=>False
 |none=>match gH P o.op bf s with
  |some (v,s')=>K v s'
  |none=>False
def YY(ops:Array Oper)(o:Oper)(bf:Env)(A B:Prop):Prop:=
 match o.guard with
 |none=>A
 |some (j,want)=>match(ops[j]?).bind (·.dst)with
  |some d=>match bn bf d with
   |some (.bool b)=>(b=want->A)/\(b=!want->B)
   |some (.dS [])=>B
   |_=>False
  |none=>False
def mY(N:Nat):Option Nat->Bool
 |some d=>decide (d<N)
 |none=>true
section
variable {P:Program} {N:Nat} {ρ:Option Nat} {Q Q':Exit->Env->St->Prop} {bf:Env} {s:St}
theorem im.mono{G:bS}{w:World}{e:Exit}{a':Act}{w':World}(h:im G N ρ s w Q e a' w')(hq: ∀e bf s,Q e bf s->Q' e bf s):im G N ρ s w Q' e a' w':=
 let⟨G',env',s',a,b,c⟩:=h;⟨G',env',s',a,b,hq _ _ _ c⟩
theorem gY.mono{c:Code}(h:gY P N ρ c Q bf s)(hq: ∀e bf s,Q e bf s->Q' e bf s):gY P N ρ c Q' bf s:=
 λG w a hn=>wpIn_mono (h G w a hn) λ_ _ _ ha=>ha.mono hq
theorem wj.after{G:bS}{e:Exit}{a:Act}{w:World}(h:wj G N ρ bf s a w)(hq:Q e bf s):im G N ρ s w Q e a w:=⟨G,bf,s,h,.refl _ _ _,hq⟩
theorem gY.later{c:Code}{G G':bS}{s0:St}{w0:World}{w:World}{a:Act}(h:gY P N ρ c Q bf s)(h0:eG G s0 w0)(hk:wi G ρ)(hx:Ext G s0 w0 G' s w)(hn:wj G' N ρ bf s a w):
  c.wpIn (tt (wY G ρ)) 0 P (im G N ρ s0 w0 Q) a w:=by
 have:=h G' w a hn;rw[Ii hx.le hk]at this;exact wpIn_mono this λe a' w' ⟨G2,xY,s2,n2,x2,q2⟩=>⟨G2,xY,s2,n2,.trans h0 hx x2,q2⟩
theorem Ma(h:Q .normal bf s):gY P N ρ .skip Q bf s:=λ_ _ _ hn=>wpIn_skip (hn.after h)
theorem Ij(h:Q .ret bf s):gY P N ρ .ret Q bf s:=λ_ _ _ hn=>wpIn_ret (hn.after h)
theorem ri{x y:Code}(h:gY P N ρ x (J6 (gY P N ρ y Q) Q) bf s):gY P N ρ (.seq x y) Q bf s:=λG w a hn=>by
 refine wpIn_seq (wpIn_mono (h G w a hn) ?_);rintro e a' w' ⟨G',env',s',n',x',q'⟩;cases e with
 |normal=>exact gY.later q' hn.iB hn.known x' n'
 |exit id=>exact⟨G',env',s',n',x',q'⟩
 |goto l=>exact⟨G',env',s',n',x',q'⟩
 |ret=>exact⟨G',env',s',n',x',q'⟩
 |panic ch=>exact⟨G',env',s',n',x',q'⟩
 |outgrown=>exact⟨G',env',s',n',x',q'⟩
theorem J7{id:Nat}{c:Code}(h:gY P N ρ c (oW id Q) bf s):gY P N ρ (.block id c) Q bf s:=λG w a hn=>by
 refine wpIn_block (wpIn_mono (h G w a hn) ?_);rintro e a' w' ⟨G',env',s',n',x',q'⟩;cases e with
 |exit fq=>
  simp only[oW]at q';simp only[Exit.inBlock];split
  ·rename_i he;rw[ez he]at q';exact⟨G',env',s',n',x',q'⟩
  ·rename_i he;rw[fN he]at q';exact⟨G',env',s',n',x',q'⟩
 |normal=>exact⟨G',env',s',n',x',q'⟩
 |goto l=>exact⟨G',env',s',n',x',q'⟩
 |ret=>exact⟨G',env',s',n',x',q'⟩
 |panic ch=>exact⟨G',env',s',n',x',q'⟩
 |outgrown=>exact⟨G',env',s',n',x',q'⟩
theorem Gk{F:Fence}{n:Nat}{R:Exit->Act->World->Prop}{c:Code}(J:Nat->Act->World->Prop)
  (round: ∀k a w,J k a w->c.wpIn F n P (Exit.then (λa' w'=> ∃k',k'<k/\J k' a' w') R) a w) {k:Nat} {a:Act} {w:World} (h0:J k a w):(Code.loop c).wpIn F n P R a w:=by
 intro b kk cs J8 hb hr;have key: ∀j a w,J j a w-> ∃e a' w',R e a' w'/\ArrivesIn (Machine.fenced P F) P (lone (b.atR a (.code c::.inLoop c::kk)) cs w) b kk cs e a' w':=by
  intro j
  induction j using Nat.strongRecOn with
  |_ j ih=>
   intro a w hI;obtain⟨e,w6,w7,hq,sG⟩:=round j a w hI b (.inLoop c::kk) cs J8 hb hr;cases e with
   |normal=>
    obtain⟨k',kc,Wz⟩:=hq;obtain⟨aac,aad,aae,WA,P5⟩:=ih k' kc w6 w7 Wz;exact⟨aac,aad,aae,WA,.of_steps (StepsIn.trans sG (.one (fenced_calm hb hr rfl) stepR_inLoop)) P5⟩
   |exit id=>exact⟨_,w6,w7,hq,.pass (x:=.inLoop c) rfl (λ_ _=>.inl (by simp)) sG⟩
   |goto l=>exact⟨_,w6,w7,hq,.pass (x:=.inLoop c) rfl (λ_ _=>.inl (by simp)) sG⟩
   |ret=>exact⟨_,w6,w7,hq,.pass (x:=.inLoop c) rfl (λ_ _=>.inl (by simp)) sG⟩
   |panic ch=>exact⟨_,w6,w7,hq,.pass (x:=.inLoop c) rfl (λ_ _=>.inl (by simp)) sG⟩
   |outgrown=>exact⟨_,w6,w7,hq,.pass (x:=.inLoop c) rfl (λ_ _=>.inl (by simp)) sG⟩
 obtain⟨e,a',w',hq,sG⟩:=key k a w h0;exact⟨e,a',w',hq,.of_steps (.one (fenced_calm hb hr rfl) stepR_loop) sG⟩
theorem DE{G:bS}{v:Value}{x:AV}(h:xT v=some x):V G x v:=by
 unfold xT at h;split at h<;>cases h
 ·exact .bool _
 ·exact .int _ _
 ·exact .str _
 ·exact .jN
 ·exact .nB
 ·exact .slnil _ _ _ (λ_=>rfl) (λ_=>rfl)
theorem AY{G:bS}: ∀{l:List Value}{xs:List AV},tD l=some xs->xs.length=l.length/\ ∀(i:Nat)x y,xs[i]? =some x->l[i]? =some y->V G x y
 | [],xs,h=>by simp[tD]at h;subst h;simp
 |v::r,xs,h=>by
  simp only[tD]at h;split at h
  ·rename_i x l h1 h2;cases h;obtain⟨e1,e2⟩:=AY (G:=G) h2
   grind [DE]
  ·cases h
theorem rj{G:bS}{v:Value}{x:AV}(h:ofValue v=some x):V G x v:=by
 unfold ofValue at h;split at h
 ·rename_i cs;split at h
  ·rename_i l hl;cases h;obtain⟨e1,e2⟩:=AY (G:=G) hl;exact .agg _ _ (by grind) λi a b ha hb=>e2 i a b ha (by grind)
  ·cases h
 ·exact DE h
theorem eJ{G:bS}{a:Act}(he:iL G bf a.tmps){o:Operand}{x:AV}(h:oper bf o=some x):V G x (a.eval o):=by
 cases o with
 |tmp t=>exact(he t x h).2
 |const v=>exact rj h
 |func f=>cases h;exact .fn f [] #[] rfl (by simp)
 |global g=>cases h
theorem rk{G:bS}{a:Act}(he:iL G bf a.tmps): ∀{l:List Operand}{xs:List AV},opers bf l=some xs->
  xs.length=l.length/\ ∀(i:Nat)x y,xs[i]? =some x->(l.map a.eval)[i]? =some y->V G x y
 | [],xs,h=>by simp[opers]at h;subst h;simp
 |o::r,xs,h=>by
  simp only[opers]at h;split at h
  ·rename_i x l h1 h2;cases h;obtain⟨e1,e2⟩:=rk he h2;refine⟨by simp[e1],λi a b ha hb=>?_⟩;cases i with
   |zero=>simp at ha hb;subst ha;subst hb;exact eJ he h1
   |succ i=>exact e2 i a b (by simpa using ha) (by simpa using hb)
  ·cases h
theorem tH{G:bS}{a:Act}(he:iL G bf a.tmps){l:Array Operand}{xs:List AV}(h:opers bf l.toList=some xs):VL G xs (l.map a.eval):=by
 obtain⟨e1,e2⟩:=rk he h;exact⟨by grind,λi x y hx hy=>e2 i x y hx (by grind)⟩
theorem xZ{c:Operand}{x y:Code}{b:Bool}(hc:oper bf c=some (.bool b))(ht:b=true->gY P N ρ x Q bf s)(hf:b=false->gY P N ρ y Q bf s):
  gY P N ρ (.cond c x y) Q bf s:=λG w a hn=>by
 have hv:=eJ hn.bf hc;generalize hq:a.eval c=v at hv;cases hv;exact wpIn_cond_split hq (λe=>ht e G w a hn) (λe=>hf e G w a hn)
theorem iL.sub{G:bS}{bf env':Env}{tmps:Array Value}(h:iL G bf tmps)(hs: ∀t x,bn env' t=some x->bn bf t=some x):iL G env' tmps:=λt x hx=>h t x (hs t x hx)
theorem oV.drop{G:bS}{s s':St}(hd: ∀id,bn s.heap id=some .gq->bn s'.heap id=some .gq): ∀{ds:List Deferred},oV G s ds->oV G s' ds
 | [],_=>trivial
 |_::_,⟨⟨id,r,a,b,c,d⟩,hr⟩=>⟨⟨id,r,hd id a,b,c,d⟩,oV.drop hd hr⟩
theorem Mb{c:Code}{env':Env}{s':St}(h:gY P N ρ c Q env' s')(he: ∀t x,bn env' t=some x->bn bf t=some x)(hh: ∀id b,bn s'.heap id=some b->bn s.heap id=some b)
  (hc:s.bN<=s'.bN) (hd: ∀id,bn s.heap id=some .gq->bn s'.heap id=some .gq):gY P N ρ c Q bf s:=λ_ _ _ hn=>
 gY.later h hn.iB hn.known (Ext.drop hh hc hd) ⟨hn.iB.drop hh hc,hn.bf.sub he,hn.size,hn.mr.drop hd,hn.known⟩
end
end Go.Am
end
section
namespace Go.Am
open Go.RowKit
section
variable {P:Program} {G:bS} {s s':St} {w:World}
def tu(P:Program)(G:bS)(s:St)(w:World)(P6:Sem Value)(x:AV)(s':St):Prop:=
 ∃v G' w',P6.run P w=.ok v w'/\V G' x v/\eG G' s' w'/\Ext G s w G' s' w'
theorem dN(hs:eG G s w){P6:Sem Value}{x:AV}{v:Value}(hr:P6.run P w=.ok v w)(hv:V G x v):tu P G s w P6 x s:=⟨v,G,w,hr,hv,hs,.refl _ _ _⟩
theorem ir{t:TypeId}{i:TypeInfo}(h:P.info? t=some i)(w:World):(typeInfo t).run P w=.ok i w:=by simp[typeInfo,h]
theorem mZ{t n:Nat}(h:cK P t=some n): ∃i,P.info? t=some i/\i.size=n:=by
 unfold cK at h;simp_all
theorem qi{t n:Nat}(h:mn P t=some n): ∃i,P.info? t=some i/\i.bytes=n:=by
 unfold mn at h;simp_all
theorem dU{t n:Nat}(h:cK P t=some n)(w:World):(sizeOf t).run P w=.ok n w:=by
 obtain⟨i,hi,rfl⟩:=mZ h;simp[sizeOf,ir hi]
theorem tK{t:Nat}{b:Bool}(h:DC P t=some b)(w:World):(isAgg t).run P w=.ok b w:=by
 unfold DC at h;cases hu:P.underlying t with
 |none=>grind
 |some d=>
  simp only[hu,iJ,Option.some.injEq]at h;simp only[isAgg,Sem.run_bind,run_underlying hu,Result.andThen_ok];cases d<;>simp_all
theorem kv{t:Nat}{x:AV}(h:iT P t=some x)(w:World)(G:bS): ∃v,(zeroValue t).run P w=.ok v w/\V G x v:=by
 unfold iT at h;cases hi:P.info? t with
 |none=>grind
 |some i=>
  cases hz:i.zero with
  |none=>grind
  |some v=>
   simp[hi,hz]at h;exact⟨v,by simp[zeroValue,ir hi,hz],rj h⟩
theorem fA{t e:Nat}(h:dy P t=some e):P.underlying t=some (.slice e):=by
 unfold dy at h
 grind
theorem B3{t n e:Nat}(h:tF P t=some (n,e)):P.underlying t=some (.array n e):=by
 unfold tF at h
 grind
theorem B4{t:Nat}(h:rX P t=true):P.underlying t=some .string:=by
 unfold rX at h
 grind
theorem Mc{t:Nat}{k:IntKind}(h:Au P t=some k):P.underlying t=some (.int k):=by
 unfold Au at h
 grind
theorem ya{t i off n:Nat}(h:nN P t i=some (off,n)): ∃fs f,P.underlying t=some (.struct fs)/\fs[i]? =some f/\f.offset=off/\cK P f.type=some n:=by
 unfold nN at h
 grind
def qj(G:bS)(w:World)(b o:Nat)(cs:List AV):Prop:= ∀k x,cs[k]? =some x-> ∃v,w.cell? ⟨b,o+k,none⟩=some v/\V G x v
theorem eG.there(hs:eG G s w){id el off cq:Nat}{elems:List AV}{e:AV}{r:tx}(hg:bn s.heap id=some (.cells cq elems))(ho:G.own id=some r)(he:elems[el]? =some e):
  qj G w r.block (r.bG+el*r.cq+off) (e.cells.drop off):=by
 obtain⟨o,e2,e3⟩:=hs.at hg ho;cases e3 with
 |cells _ _ cs ty eB eo h0 jR kI ga hV=>
  intro k x hx;rw[YJ]at hx;obtain⟨v,hv,Aw⟩:=hV _ x (oS jR he (off+k) x hx);refine⟨v,?_,Aw⟩;subst eo;simp only[World.cell?,e2]
  grind
theorem sv(hs:eG G s w){p:AV}{pv:Value}(hp:V G p pv){cs:List AV}(h:kM s p=some cs): ∃b o,pv=.pointer (some ⟨b,o,none⟩)/\qj G w b o cs:=by
 cases hp with
 |mp id el off r ho=>
  simp only[kM]at h;split at h
  ·rename_i cq elems hg;split at h
   ·rename_i e he;cases h;exact⟨_,_,rfl,hs.there hg ho he⟩
   ·cases h
  ·cases h
 |ip cells b off val gE hV=>
  cases h;refine⟨b,off,rfl,λk x hx=>⟨val k,hs.ig _ _ _ (gE k (lf.1 hx).1),hV k x hx⟩⟩
 |_=>simp[kM]at h
theorem nP(b o n:Nat):(⟨b,o,none⟩:Addr).add n=⟨b,o+n,none⟩:=by unfold Addr.add;grind
theorem qj.loadCells{b o n:Nat}{cs:List AV}(h:qj G w b o cs)(hn:n<=cs.length): ∃vs:Array Value,(loadCells ⟨b,o,none⟩ n).run P w=.ok vs w/\VL G (cs.take n) vs:=by
 refine⟨((List.range n).map λj=>(w.cell? ⟨b,o+j,none⟩).getD undef).toArray,?_,?_⟩
 ·refine run_loadCells w _ n _ λj hj=>?_;rw[nP];have hl:j<cs.length:=by omega
  obtain⟨v,hv,_⟩:=h j cs[j] (dF hl);simp[hv]
 ·refine⟨by simp;omega,λi x y hx hy=>?_⟩;have hi:i<n:=by
   grind
  rw[YL,ez hi]at hx;obtain⟨v,hv,hV⟩:=h i x hx
  grind
theorem qj.read{b o t:Nat}{cs:List AV}{x:AV}(h:qj G w b o cs)(hr:nE P t cs=some x): ∃v,(loadVar t ⟨b,o,none⟩).run P w=.ok v w/\V G x v:=by
 unfold nE at hr;split at hr
 ·rename_i ha;split at hr
  ·rename_i n hn;split at hr
   ·rename_i eR;cases hr;obtain⟨vs,e1,e2⟩:=h.loadCells (P:=P) eR;exact⟨.agg vs,by simp[loadVar,tK ha,dU hn,e1],.agg _ _ e2.1 e2.2⟩
   ·cases hr
  ·cases hr
 ·rename_i ha;split at hr
  ·rename_i y l;cases hr;obtain⟨v,e1,e2⟩:=h 0 x rfl;refine⟨v,?_,e2⟩;simp only[F0]at e1;simp[loadVar,tK ha,e1]
  ·cases hr
 ·cases hr
theorem oX{t off:Nat}{cs:List AV}{vs:Array Value}{x:AV}(h:VL G cs vs)(hr:nE P t (cs.drop off)=some x): ∃v,(part t vs off).run P w=.ok v w/\V G x v:=by
 unfold nE at hr;split at hr
 ·rename_i ha;split at hr
  ·rename_i n hn;split at hr
   ·rename_i eR;cases hr;refine⟨.agg (vs.extract off (off+n)),by simp[part,tK ha,dU hn],.agg _ _ ?_ ?_⟩
    ·have:=h.1
     grind
    ·intro i a b P7 hb;have hi:i<n:=by
      grind
     rw[YL,ez hi,YJ]at P7;rw[Array.getElem?_extract]at hb;split at hb
     ·exact h.2 _ _ _ P7 hb
     ·cases hb
   ·cases hr
  ·cases hr
 ·rename_i ha;split at hr
  ·rename_i y l heq;cases hr;have hx:cs[off]? =some x:=by
    have:=fL (λl:List AV=>l[0]?) heq
    grind
   obtain⟨v,e1,e2⟩:=h.get hx;refine⟨v,?_,e2⟩;simp[part,tK ha,e1]
  ·cases hr
 ·cases hr
theorem Md(hs:eG G s w){t:TypeId}{p x:AV}{pv:Value}(hp:V G p pv)(h:nG P t p s=some x):tu P G s w (Instr.loadAt t pv) x s:=by
 unfold nG at h;split at h
 ·rename_i cs hc;obtain⟨b,o,rfl,ht⟩:=sv hs hp hc;obtain⟨v,e1,e2⟩:=ht.read (P:=P) h;exact dN hs (by simp[Instr.loadAt,Instr.sureAddr,e1]) e2
 ·cases h
theorem VL.length{cs:List AV}{vs:Array Value}(h:VL G cs vs):cs.length=vs.size:=h.1
theorem Ik(hs:eG G s w){t:TypeId}{x y:AV}{v:Value}(hv:V G x v)(h:B2 x s=some (y,s')):tu P G s w (Instr.box t v) y s':=by
 unfold B2 at h;split at h
 ·rename_i hc;cases h;have hx:x≠ .any:=λe=>by subst e;simp[AV.cells,AV.cJ]at hc
  have hl:=VL.cells hv hx;obtain⟨h1,h2⟩:=hs.put (o:=.cells v.cells t) (blk:=.cells x.cells.length [x]) (r:=⟨w.heap.size,0,x.cells.length,v.cells.size⟩) rfl
   (.cells _ _ _ _ rfl rfl hc.1 (by simp) (by simpa[de]using hc.2) (by simp[hl.1]) λk z hz=>by
    simp[de]at hz;obtain⟨u,e1,e2⟩:=hl.get hz;exact⟨u,by grind,e2.mono (.put (hs.cj _ (fw _)))⟩)
  refine⟨.pointer (some ⟨w.heap.size,0,none⟩),_,_,?_,?_,h1,h2⟩
  ·rfl
  ·have:=V.mp (G:=G.put s.bN ⟨w.heap.size,0,x.cells.length,v.cells.size⟩) s.bN 0 0 _ (by simp[bS.put];rfl)
   grind
 ·cases h
theorem J9(hs:eG G s w){t:TypeId}{z y:AV}(hz:iT P t=some z)(h:B2 z s=some (y,s')):tu P G s w (Instr.alloc t true (.tuple #[])) y s':=by
 obtain⟨v,e1,e2⟩:=kv hz w G;obtain⟨u,G',w',e3,e4⟩:=Ik (P:=P) (t:=t) hs e2 h;refine⟨u,G',w',?_,e4⟩;simp only[Instr.alloc,Sem.run_bind,e1,Result.andThen_ok];simpa[Instr.box]using e3
theorem cells_one{x:AV}(h:x.cJ=true):x.cells=[x]:=by
 cases x<;>first|rfl|(simp[AV.cJ]at h)
theorem AZ{n:Nat}(h0:0<n): ∀(k:Nat)(l:List AV),l.length=k*n->l.all AV.cJ=true->(∀e∈chunk n k l,e.cells.length=n)/\de (chunk n k l)=l
 |0,l,hl,_=>by
  have:l=[]:=YM.1 (by grind);subst this;exact⟨λe he=>(by cases he),rfl⟩
 |k+1,l,hl,hs=>by
  rw[Nat.succ_mul]at hl;obtain⟨h1,h2⟩:=AZ h0 k (l.drop n) (by simp;omega) (qc.2 λx hx=>qc.1 hs x (PW hx));have key:(bif Nat.beq n 1 then l.headD .any else .agg (l.take n):AV).cells=l.take n:=by
   cases hb:Nat.beq n 1 with
   |false=>rfl
   |true=>
    have:=jU hb;subst this;cases l with
    |nil=>simp at hl
    |cons x r=>exact cells_one (qc.1 hs x (by simp))
  refine⟨λe he=>?_,?_⟩
  ·rcases pU.1 he with rfl|he
   ·rw[key,List.length_take];omega
   ·exact h1 e he
  ·show de (_::chunk n k (l.drop n))=l;simp only[de,F1]at h2 |-
   rw[h2,key,VF]
theorem Gl(hs:eG G s w){t:TypeId}{z y:AV}(hz:iT P t=some z)(h:DD P t z s=some (y,s')):tu P G s w (Instr.alloc t true (.tuple #[])) y s':=by
 obtain⟨v,e1,hv⟩:=kv hz w G;unfold DD at h;split at h
 case h_2=>cases h
 rename_i m e _;split at h
 case h_2=>cases h
 rename_i n _;cases YZ:(Nat.blt 0 m&&(Nat.blt 0 n&&(Nat.beq z.cells.length (m*n)&&z.cells.all AV.cJ)))<;>rw[YZ]at h
 ·cases h
 ·simp only[eU,tv]at YZ;obtain⟨hm,hn,dK,hc⟩:=YZ;have dK:=jU dK;have Ax:0<m*n:=Nat.mul_pos hm hn;obtain⟨q1,q2⟩:=AZ hn m z.cells dK hc;have F6:(chunk n m z.cells).length=m:=by
   have: ∀(k:Nat)(l:List AV),(chunk n k l).length=k:=λk=>by induction k with|zero=>intro l;rfl|succ k ih=>intro l;simp[chunk,ih]
   grind
  cases h;have hx:z≠ .any:=λe=>by subst e;simp[AV.cells,AV.cJ]at hc
  have hl:=VL.cells hv hx;obtain⟨h1,h2⟩:=hs.put (o:=.cells v.cells t) (blk:=.cells n (chunk n m z.cells)) (r:=⟨w.heap.size,0,n,v.cells.size⟩) rfl
   (.cells _ _ _ _ rfl rfl hn q1 (by grind) (by rw[F6,<-dK];simp[hl.1]) λk x hx=>by
    rw[q2]at hx;obtain⟨u,e1,e2⟩:=hl.get hx;exact⟨u,by grind,e2.mono (.put (hs.cj _ (fw _)))⟩)
  refine⟨.pointer (some ⟨w.heap.size,0,none⟩),_,_,?_,?_,h1,h2⟩
  ·simp only[Instr.alloc,Sem.run_bind,e1,Result.andThen_ok];rfl
  ·have:=V.mp (G:=G.put s.bN ⟨w.heap.size,0,n,v.cells.size⟩) s.bN 0 0 _ (by simp[bS.put];rfl)
   grind
theorem V.P8{x:AV}{v:Value}(h:V G x v)(hx:x.cJ=true):v.oneCell'=true:=by
 cases h<;>simp_all[AV.cJ,Value.oneCell']
theorem pK(l:List AV)(k:Nat)(new:List AV)(i:Nat)(h:k+new.length<=l.length):
  (jq l k new)[i]? =if i<k then l[i]? else if i<k+new.length then new[i-k]? else l[i]?:=by
 unfold jq
 grind
theorem nQ(l:List AV)(k:Nat)(new:List AV)(h:k+new.length<=l.length):(jq l k new).length=l.length:=by
 simp[jq];omega
theorem lP(WB:Array Value)(k:Nat)(new:List Value)(i:Nat)(h:k+new.length<=WB.size):
  ((WB.toList.take k++new++WB.toList.drop (k+new.length)).toArray)[i]? =if i<k then WB[i]? else if i<k+new.length then new[i-k]? else WB[i]?:=by
 grind
theorem B5(e:AV)(cs:List AV)(h:cs.length=e.cells.length)(hs: ∀x∈cs,x.cJ=true):(oT e cs).cells=cs:=by
 have one:e.cells=[e]->(∀l,oT e l=match l with|x::_=>x| []=>.any)->(oT e cs).cells=cs:=λh1 h2=>by
  rw[h1]at h
  match cs,h with
  | [x],_=>
   have:=hs x (by simp);rw[h2];cases x<;>simp_all[AV.cells,AV.cJ]
 cases e with
 |agg l=>rfl
 |_=>exact one rfl λ_=>rfl
theorem setRow_other(w:World)(g:Nat)(cs:Array Value)(b:Nat)(h:b≠g):(w.setRow g cs).heap[b]? =w.heap[b]?:=by
 simp only[World.setRow,Array.getElem?_modify]
 grind
theorem yb(hs:eG G s w){id cq:Nat}{elems elems':List AV}{r:tx}{cs:Array Value}{ty:TypeId}(hg:bn s.heap id=some (.cells cq elems))(ho:G.own id=some r)
  (hw:w.heap[r.block]? =some (.cells cs ty (0,0))) {cs':Array Value} (eB:cs'.size=r.size) (eo:r.cq=cq) (h0:0<cq) (jR: ∀x∈elems',x.cells.length=cq)
  (kI: ∀x∈de elems',x.cJ=true) (ga:r.bG+elems'.length*cq<=r.size) (hV: ∀k x,(de elems')[k]? =some x-> ∃v,cs'[r.bG+k]? =some v/\V G x v):
  eG G ⟨dM s.heap id (.cells cq elems'),s.bN⟩ (w.setRow r.block cs')/\Ext G s w G ⟨dM s.heap id (.cells cq elems'),s.bN⟩ (w.setRow r.block cs'):=
 hs.turn hg ho (by simp_all) rfl rfl rfl (λb hb=>setRow_other w _ _ _ hb) (setRow_heap w _ cs cs' ty _ hw) (.cells cq elems' cs' ty eB eo h0 jR kI ga hV) (by simp)
end
end Go.Am
end
section
namespace Go.Am
open Go.RowKit
section
variable {P:Program} {G:bS} {s s':St} {w:World}
theorem DF{l:List AV}(h:l.all AV.cJ=true): ∀x∈l,x.cJ=true:=by simpa using h
theorem mJ{x:AV}(h:x.cells.all AV.cJ=true):x≠ .any:=λe=>by subst e;simp[AV.cells,AV.cJ]at h
theorem VL.tP{cs:List AV}{vs:Array Value}(h:VL G cs vs)(hs: ∀x∈cs,x.cJ=true): ∀v∈vs.toList,v.oneCell'=true:=by
 intro v hv;obtain⟨i,hi,rfl⟩:=qZ hv;have F7:i<cs.length:=by rw[h.1];grind
 exact(h.2 i cs[i] _ (dF F7) (by simp)).P8 (hs _ (F2 F7))
theorem Gm{k e m:Nat}(h0:0<m)(h:k / m=e):e*m<=k/\k<e*m+m/\k%m=k-e*m:=by
 subst h;have h1:=Nat.div_add_mod k m;have h2:=Nat.mod_lt k h0
 grind
theorem Me{elems:List AV}{el:Nat}{e:AV}(y:AV){i:Nat}{z:AV}(he:elems[el]? =some e)(h:(elems.set el y)[i]? =some z):(i=el/\z=y)\/(i≠el/\elems[i]? =some z):=by
 grind
theorem Ka(hs:eG G s w){t:TypeId}{p x:AV}{pv v:Value}(hp:V G p pv)(hx:V G x v)(h:sF P t p x s=some s'):
  ∃w',(Instr.storeAt t pv v).run P w=.ok () w'/\eG G s' w'/\Ext G s w G s' w':=by
 unfold sF at h;split at h
 case h_2=>cases h
 rename_i id el off;split at h
 case h_2=>cases h
 rename_i cq elems hg;split at h
 case h_2=>cases h
 rename_i e he;split at h
 case isFalse=>cases h
 rename_i hc;obtain⟨eB,eR,jB⟩:=hc;cases h;cases hp with
 |mp _ _ _ r ho=>
  have hl:=VL.cells hx (mJ jB);have aaf:=DF jB;obtain⟨o,e2,e3⟩:=hs.at hg ho;cases e3 with
  |cells _ _ cs ty vr eo h0 jR kI ga hV=>
   have aag:el<elems.length:=(lf.1 he).1;have abv:e.cells.length=cq:=jR e (gN he);have hmul:(el+1)*cq<=elems.length*cq:=DA _ aag;rw[F3]at hmul;have dK:v.cells.toList.length=x.cells.length:=by simp[hl.1]
   have tQ:r.bG+el*cq+off+0+v.cells.toList.length<=cs.size:=by grind
   have fP:=run_storeCells_at P r.block (r.bG+el*cq+off) ty v.cells.toList 0 cs w e2 tQ (hl.tP aaf);simp only[F0]at fP tQ;have DG:(jq e.cells off x.cells).length=e.cells.length:=nQ _ _ _ (by omega);have WC: ∀z∈jq e.cells off x.cells,z.cJ=true:=by
    intro z hz;simp only[jq,oq]at hz;have hec: ∀z∈e.cells,z.cJ=true:=λz hz=>kI z (by rw[de,tw];grind)
    grind
   have hre:=B5 e (jq e.cells off x.cells) DG WC;have Kb: ∀y∈elems.set el (oT e (jq e.cells off x.cells)),y.cells.length=cq:=by
    grind
   have P9: ∀k z,(de (elems.set el (oT e (jq e.cells off x.cells))))[k]? =some z->
     ∃u,((cs.toList.take (r.bG+el*cq+off)++v.cells.toList++cs.toList.drop (r.bG+el*cq+off+v.cells.toList.length)).toArray)[r.bG+k]? =some u/\V G z u:=by
    intro k z hz;obtain⟨y,hy,Qa⟩:=xS Kb h0 hz;rw[lP _ _ _ _ tQ,dK];rcases Me _ he hy with⟨hi,rfl⟩|⟨hi,VR⟩
    ·obtain⟨m1,m2,m3⟩:=Gm h0 hi;rw[hre,pK _ _ _ _ (by omega),m3]at Qa;by_cases c1:r.bG+k<r.bG+el*cq+off
     ·rw[ez c1];rw[ez (by omega)]at Qa;have:=oS jR he (k-el*cq) z Qa;simp_all
     ·rw[fN c1];rw[fN (by omega)]at Qa;by_cases c2:r.bG+k<r.bG+el*cq+off+x.cells.length
      ·rw[ez c2];rw[ez (by omega)]at Qa;obtain⟨u,e1,e2⟩:=hl.get Qa;refine⟨u,?_,e2⟩
       grind
      ·rw[fN c2];rw[fN (by omega)]at Qa;have:=oS jR he (k-el*cq) z Qa;simp_all
    ·have hk:=oS jR VR (k%cq) z Qa;rw[Nat.mul_comm,Nat.div_add_mod]at hk;have fG: ¬(el*cq+off<=k/\k<el*cq+off+x.cells.length):=λ⟨a,b⟩=>hi (by
      have:k / cq=el:=Nat.div_eq_of_lt_le (by omega) (by grind);exact this)
     grind
   have Th: ∀z∈de (elems.set el (oT e (jq e.cells off x.cells))),z.cJ=true:=by
    intro z hz;rw[de,tw]at hz;obtain⟨y,hy,hz⟩:=hz;rcases Z9 hy with hy|rfl
    ·exact kI z (by rw[de,tw];grind)
    grind
   obtain⟨q1,q2⟩:=yb hs hg ho e2 (cs':=(cs.toList.take (r.bG+el*cq+off)++v.cells.toList++cs.toList.drop (r.bG+el*cq+off+v.cells.toList.length)).toArray)
    (by grind) eo h0 Kb Th (by grind) P9
   refine⟨_,?_,q1,q2⟩;subst eo;have aah:(sizeOf t).run P w=.ok v.cells.size w:=by rw[dU eB,hl.1]
   simp[Instr.storeAt,Instr.sureAddr,storeVar,aah,fP]
theorem Ay{t:TypeId}{p x:AV}{i:Nat}{pv:Value}(hs:eG G s w)(hp:V G p pv)(h:xV P t p i=some x):tu P G s w (Instr.fieldAt t pv i) x s:=by
 unfold xV at h;split at h
 case h_2=>cases h
 rename_i off n hf;obtain⟨fs,f,hu,hfi,Ti,hn⟩:=ya hf;split at h
 ·cases h
 ·rename_i Tj;have run: ∀b o,pv=.pointer (some ⟨b,o,none⟩)->(Instr.fieldAt t pv i).run P w=.ok (.pointer (some ⟨b,o+off,none⟩)) w:=λb o e=>by
   subst e;simp[Instr.fieldAt,run_underlying hu,hfi,Instr.sureAddr,fieldPlace,dU hn,Tj,nP,Ti]
  split at h
  ·cases h;cases hp with
   |mp id el o r ho=>exact dN hs (run _ _ rfl) (by rw[RW];exact .mp _ _ _ r ho)
  ·cases h;cases hp with
   |ip cells b o val gE hV=>
    refine dN hs (run _ _ rfl) (.ip _ b (o+off) (λk=>val (off+k)) (λk hk=>?_) λk x hx=>?_)
    all_goals grind
  ·cases h
theorem Kc{t:TypeId}{p x:AV}{i:Nat}{pv:Value}(hs:eG G s w)(hp:V G p pv)(h:tG P t p i=some x):tu P G s w (Instr.field t pv i) x s:=by
 unfold tG at h;split at h
 case h_2=>cases h
 rename_i off n ft hf hft;obtain⟨fs,f,hu,hfi,Ti,hn⟩:=ya hf;have aai:f.type=ft:=by
  unfold B0 at hft
  grind
 unfold L9 at h;split at h
 case h_2=>cases h
 rename_i cs;cases hp with
 |agg _ vs dK hh=>
  subst Ti;subst aai;obtain⟨v,e1,e2⟩:=oX (P:=P) (w:=w) ⟨dK,hh⟩ h;exact dN hs (by simp[Instr.field,run_underlying hu,hfi,asAgg,e1]) e2
theorem V.oY{full:Bool}{elems:List AV}{v:Value}(h:V G (.sl full elems) v): ∃bG cap,v=.slice bG elems.length cap/\elems.length<=cap/\(full=true->cap=elems.length)/\
  (bG=none->cap=0)/\(elems=[]\/ ∃(b off cq:Nat)(val:Nat->Value),bG=some ⟨b,off,none⟩/\(∀e∈elems,e.cells.length=cq)/\(∀x∈de elems,x.cJ=true)/\
   (∀k,k<elems.length*cq->G.ig b (off+k)=some (val k))/\ ∀k x,(de elems)[k]? =some x->V G x (val k)):=by
 cases h with
 |slnil full bG cap hf hb=>exact⟨bG,cap,rfl,Ds _,λe=>hf e,hb,.inl rfl⟩
 |sl _ _ b off cq cap val jC jX eo kI gE hV=>exact⟨_,cap,rfl,jC,jX,(λe=>by cases e),.inr ⟨b,off,cq,val,rfl,eo,kI,gE,hV⟩⟩
theorem Kd(hs:eG G s w){elems:List AV}{b off cq:Nat}{val:Nat->Value}(eo: ∀e∈elems,e.cells.length=cq)(gE: ∀k,k<elems.length*cq->G.ig b (off+k)=some (val k))
  (hV: ∀k x,(de elems)[k]? =some x->V G x (val k)):qj G w b off (de elems):=λk x hx=>by
 have hk:k<elems.length*cq:=by grind [dD]
 exact⟨val k,hs.ig _ _ _ (gE k hk),hV k x hx⟩
theorem Az{t:TypeId}{p i x:AV}{pv iv:Value}(hs:eG G s w)(hp:V G p pv)(hi:V G i iv)(h:eC P t p i s=some x):tu P G s w (Instr.indexAt t pv iv) x s:=by
 unfold eC at h;split at h
 case h_2=>cases h
 rename_i kd n;cases hi;split at h
 ·rename_i e he;have hu:=fA he;split at h
  ·rename_i full elems;split at h
   case isFalse=>cases h
   rename_i hn;split at h
   case h_2=>cases h
   rename_i y hy;split at h
   case isFalse=>cases h
   rename_i eB;cases h;obtain⟨bG,cap,rfl,eR,_,_,hz⟩:=V.oY hp;have kc:n.toNat<elems.length:=(lf.1 hy).1;rcases hz with rfl|⟨b,off,cq,val,rfl,eo,_,gE,hV⟩
   ·simp at hy
   ·have hye:y.cells.length=cq:=eo y (gN hy);have R0:n<(elems.length:Int):=by omega
    have hmul:(n.toNat+1)*cq<=elems.length*cq:=DA _ kc;rw[F3]at hmul;refine dN hs (v:=.pointer (some ⟨b,off+n.toNat*cq,none⟩)) ?_ (.ip _ _ _ (λk=>val (n.toNat*cq+k)) (λk hk=>?_) λk z hz=>?_)
    ·rw[hye]at eB;simp[Instr.indexAt,asIntOf,run_underlying hu,hn,R0,dU eB,nP]
    all_goals grind [oS]
  ·rename_i id bq len;split at h
   case h_2=>cases h
   rename_i cq elems hg;split at h
   case isFalse=>cases h
   rename_i hc;obtain⟨h1,h2,h3⟩:=hc;cases h;cases hp with
   |gO _ _ _ _ _=>omega
   |ms _ _ _ cap r addr ho eR ga iK=>
    obtain⟨o,e2,e3⟩:=hs.at hg ho;cases e3 with
    |cells _ _ cs ty vr eo h0 jR kI Gn hV=>
     have jC:0<cap:=by omega
     rw[iK jC];refine dN hs (v:=.pointer (some ⟨r.block,r.bG+(bq+n.toNat)*r.cq+0,none⟩)) ?_ (.mp _ _ _ r ho);subst eo;simp[Instr.indexAt,asIntOf,run_underlying hu,h1,h2,dU h3,nP,F3,RW]
  ·cases h
 ·split at h
  case h_2=>cases h
  rename_i m e he;have hu:=B3 he;split at h
  case h_2=>cases h
  rename_i sz eB;split at h
  case isFalse=>cases h
  rename_i hc;obtain⟨h1,h2⟩:=hc;have run: ∀b o,pv=.pointer (some ⟨b,o,none⟩)->(Instr.indexAt t pv (.int kd n)).run P w=.ok (.pointer (some ⟨b,o+n.toNat*sz,none⟩)) w:=λb o e=>by
   subst e;simp[Instr.indexAt,asIntOf,run_underlying hu,Instr.sureAddr,h1,h2,dU eB,nP]
  split at h
  ·rename_i id el off;cases hb:Nat.blt 8 (m*sz)<;>rw[hb]at h
   ·cases h;cases hp with
    |mp _ _ _ r ho=>exact dN hs (run _ _ rfl) (by rw[RW];exact .mp _ _ _ r ho)
   ·simp only[cP]at h;split at h
    case h_2=>cases h
    rename_i cq elems hg;split at h
    case isFalse=>cases h
    rename_i hq;obtain⟨rfl,rfl⟩:=hq;cases h;cases hp with
    |mp _ _ _ r ho=>
     obtain⟨o,_,e3⟩:=hs.at hg ho;cases e3 with
     |cells _ _ cs ty vr eo=>
      refine dN hs (run _ _ rfl) ?_;have:=V.mp (G:=G) id (el+n.toNat) 0 r ho
      grind
  ·cases h;cases hp with
   |ip cells b o val gE hV=>
    refine dN hs (run _ _ rfl) (.ip _ b _ (λk=>val (n.toNat*sz+k)) (λk hk=>?_) λk x hx=>?_)
    all_goals grind
  ·cases h
theorem Ke{t:TypeId}{p i x:AV}{pv iv:Value}(hs:eG G s w)(hp:V G p pv)(hi:V G i iv)(h:oU P t p i=some x):tu P G s w (Instr.index t pv iv) x s:=by
 unfold oU at h;split at h
 case h_2=>cases h
 rename_i kd n;cases hi;split at h
 ·rename_i b;split at h
  case isFalse=>cases h
  rename_i hc;split at h
  case h_2=>cases h
  rename_i c hb;cases h;cases hp;exact dN hs (by simp[Instr.index,asIntOf,run_underlying (B4 hc.1),hc.2,hb]) (.int _ _)
 ·rename_i cs;split at h
  case h_2=>cases h
  rename_i m e he;have hu:=B3 he;split at h
  case h_2=>cases h
  rename_i sz eB;split at h
  case isFalse=>cases h
  rename_i hc;cases hp with
  |agg _ vs dK hh=>
   obtain⟨v,e1,e2⟩:=oX (P:=P) (w:=w) ⟨dK,hh⟩ h;exact dN hs (by simp[Instr.index,asIntOf,run_underlying hu,hc,dU eB,e1]) e2
 ·cases h
end
end Go.Am
end
section
namespace Go.Am
open Go.RowKit
section
variable {P:Program} {G:bS} {s s':St} {w:World} {bf:Env} {a:Act}
theorem na(he:iL G bf a.tmps){x:Option Operand}{d l:Nat}(h:gh bf x d=some l):
  (x=none/\l=d)\/ ∃k n,x.map a.eval=some (.int k n)/\0<=n/\n.toNat=l:=by
 unfold gh at h;split at h
 ·grind
 ·rename_i o;split at h
  ·rename_i k n ho;split at h
   ·rename_i hn;cases h;have hv:=eJ he ho;generalize hq:a.eval o=v at hv;cases hv
    grind
   ·cases h
  ·cases h
theorem jO{k:IntKind}{n:Int}{y:Nat}{c:BoundsCode}(h0:0<=n)(hy:n.toNat<=y)(w:World):(Instr.sliceBound (.int k n) y c).run P w=.ok n.toNat w:=by
 have:n<=(y:Int):=by omega
 simp[Instr.sliceBound,asIntOf,h0,this]
theorem iZ(he:iL G bf a.tmps){lo hi mx:Option Operand}{Y0:Bool}{len cap l h m:Nat}(hl:gh bf lo 0=some l)(hh:gh bf hi len=some h)
  (hm:(mx=none/\m=cap)\/(mx.isSome=true/\hi.isSome=true/\gh bf mx cap=some m)) (h1:l<=h) (h2:h<=m) (h3:m<=cap) (h4:mx=none->h<=cap):
  (Instr.sliceBounds Y0 len cap (lo.map a.eval) (hi.map a.eval) (mx.map a.eval)).run P w=.ok (l,h,m) w:=by
 unfold Instr.sliceBounds;rcases hm with⟨rfl,rfl⟩|⟨m1,m2,m3⟩
 ·rcases na he hl with⟨rfl,rfl⟩|⟨k1,n1,e1,p1,rfl⟩<;>rcases na he hh with⟨rfl,rfl⟩|⟨k2,n2,e2,p2,rfl⟩
  ·simp
  ·simp[e2,jO p2 (h4 rfl)]
  ·simp[e1,jO p1 h1]
  ·simp[e1,e2,jO p1 h1,jO p2 (h4 rfl)]
 ·rcases na he m3 with⟨rfl,_⟩|⟨k3,n3,e3,p3,rfl⟩
  ·cases m1
  ·rcases na he hl with⟨rfl,rfl⟩|⟨k1,n1,e1,p1,rfl⟩<;>rcases na he hh with⟨rfl,rfl⟩|⟨k2,n2,e2,p2,rfl⟩
   ·cases m2
   ·simp[e2,e3,jO p2 h2,jO p3 h3]
   ·cases m2
   ·simp[e1,e2,e3,jO p1 h1,jO p2 h2,jO p3 h3]
theorem ij{elems:List AV}(n:Nat){x:AV}{cq:Nat}(eo: ∀e∈elems,e.cells.length=cq)(h0:0<cq){k l:Nat}(hx:(de ((elems.take n).drop l))[k]? =some x):
  (de elems)[l*cq+k]? =some x:=by
 have aaj: ∀e∈(elems.take n).drop l,e.cells.length=cq:=λe he=>eo e (JZ (PW he));obtain⟨e,he,hk⟩:=xS aaj h0 hx;rw[YJ,YL]at he;split at he
 ·have:=oS eo he _ _ hk
  grind [Nat.div_add_mod]
 ·cases he
theorem B6{e:TypeId}{elems:List AV}{cq:Nat}(hf: ∀y∈elems.head?,cK P e=some y.cells.length)(eo: ∀x∈elems,x.cells.length=cq)(fG:elems≠[]):cK P e=some cq:=by
 cases elems with
 |nil=>grind
 |cons x r=>simp_all
theorem DH(hs:eG G s w)(he:iL G bf a.tmps){t e:TypeId}{full Il:Bool}{elems:List AV}{pv:Value}(hp:V G (.sl full elems) pv)(hu:dy P t=some e)
  {lo hi mx:Option Operand} {l h:Nat} (hl:gh bf lo 0=some l) (hh:gh bf hi elems.length=some h) (h1:l<=h) (h2:h<=elems.length)
  (hf: ∀y∈elems.head?,cK P e=some y.cells.length) (eB:(cK P e).isSome=true)
  (hm:(mx=none/\Il=(full&&h==elems.length))\/ ∃m,mx.isSome=true/\hi.isSome=true/\(∀d,gh bf mx d=some m)/\h<=m/\m<=elems.length/\Il=(m==h)):
  tu P G s w (Instr.sliceAt t pv (lo.map a.eval) (hi.map a.eval) (mx.map a.eval)) (.sl Il ((elems.take h).drop l)) s:=by
 obtain⟨bG,cap,rfl,eR,jX,hb,hz⟩:=V.oY hp;obtain⟨m,kN,R1,hmc,sH⟩: ∃m,(Instr.sliceBounds true elems.length cap (lo.map a.eval) (hi.map a.eval) (mx.map a.eval)).run P w=.ok (l,h,m) w/\h<=m/\m<=cap/\(Il=true->m=h):=by
  rcases hm with⟨rfl,rfl⟩|⟨m,m1,m2,m3,m4,m5,rfl⟩
  ·refine⟨cap,iZ he hl hh (.inl ⟨rfl,rfl⟩) h1 (by omega) (fw _) (λ_=>by omega),by omega,fw _,λe=>?_⟩
   grind
  ·exact⟨m,iZ he hl hh (.inr ⟨m1,m2,m3 _⟩) h1 m4 (by omega) (λe=>by grind),m4,by omega,λe=>by simpa using e⟩
 have dK:((elems.take h).drop l).length=h-l:=by simp;omega
 cases hq:cK P e with
 |none=>grind
 |some sz=>
  have run:(Instr.sliceAt t (.slice bG elems.length cap) (lo.map a.eval) (hi.map a.eval) (mx.map a.eval)).run P w=
    .ok (.slice (if m=l then bG else bG.map (·.add (l*sz))) (h-l) (m-l)) w:=by
   simp[Instr.sliceAt,Instr.slice,run_underlying (fA hu),kN,dU hq]
  refine dN hs run ?_;by_cases fG:h=l
  ·subst fG;have:(elems.take h).drop h=[]:=Py (by omega);rw[this,RX];exact .slnil _ _ _ (λe=>by grind) (λe=>by
    split at e
    all_goals simp_all)
  ·rcases hz with rfl|⟨b,off,cq,val,rfl,eo,kI,gE,hV⟩
   ·grind
   ·have oz:elems≠[]:=λe=>by grind
    have B7:=B6 hf eo oz;rw[hq]at B7;cases B7;rw[fN (by omega),<-dK];have h0:0<sz\/sz=0:=by omega
    simp only[iJ,nP];refine .sl _ _ b _ sz _ (λk=>val (l*sz+k)) (by grind) (λe=>by grind) (λx hx=>eo x (JZ (PW hx)))
     (λx hx=>kI x (by
      rw[de,tw]at hx |-
      grind)) (λk hk=>?_) λk x hx=>?_
    ·rw[RW];refine gE _ ?_;rw[dK]at hk;have:l*sz+(h-l)*sz<=elems.length*sz:=by rw[<-F3];simp_all[DA]
     omega
    ·rcases h0 with h0|h0
     ·grind [ij]
     ·exfalso;have:(de ((elems.take h).drop l)).length=0:=by
       rw[dD (cq:=sz) λx hx=>eo x (JZ (PW hx)),h0];simp
      grind
theorem Kf(hs:eG G s w)(he:iL G bf a.tmps){t:TypeId}{p x:AV}{pv:Value}{lo hi mx:Option Operand}(hp:V G p pv)(h:kf P t p bf lo hi mx s=some x):
  tu P G s w (Instr.sliceAt t pv (lo.map a.eval) (hi.map a.eval) (mx.map a.eval)) x s:=by
 unfold kf at h;split at h
 ·rename_i b;split at h
  case isFalse=>cases h
  rename_i hc;split at h
  case h_2=>cases h
  rename_i l h' hl hh;split at h
  case isFalse=>cases h
  rename_i Tk;cases h;cases hp;obtain⟨hc1,hc2⟩:=hc;cases mx with
  |some _=>cases hc2
  |none=>
   have hb:=iZ (P:=P) (w:=w) (Y0:=false) (cap:=b.size) he hl hh (.inl ⟨rfl,rfl⟩) Tk.1 Tk.2 (fw _) (λ_=>Tk.2);refine dN hs (v:=.string (b.extract l h')) ?_ (.str _);simp only[RY]at hb;simp[Instr.sliceAt,Instr.slice,run_underlying (B4 hc1),hb]
 ·rename_i full elems;split at h
  case h_2=>cases h
  rename_i e hu;split at h
  ·grind [DH]
  ·rename_i l h' m0 hl hh;split at h
   case h_2=>cases h
   rename_i m hm;split at h
   case isFalse=>cases h
   rename_i hc;cases h;exact DH hs he hp hu hl hh hc.1 (by omega) hc.2.2.2.2.1 hc.2.2.2.2.2 (.inr ⟨m,rfl,hc.2.2.2.1,λd=>by simpa[gh]using hm,hc.2.1,hc.2.2.1,rfl⟩)
  ·cases h
 ·rename_i id bq len;split at h
  case h_2=>cases h
  rename_i e hu;split at h
  case h_2=>cases h
  rename_i cq elems hg;have main: ∀{l h':Nat},gh bf lo 0=some l->gh bf hi len=some h'->l<=h'->h'<=len->cK P e=some cq->
    ((mx=none)\/ ∃m,mx.isSome=true/\hi.isSome=true/\(∀d,gh bf mx d=some m)/\h'<=m/\m<=len)->
    tu P G s w (Instr.sliceAt t pv (lo.map a.eval) (hi.map a.eval) (mx.map a.eval)) (.ms id (bq+l) (h'-l)) s:=by
   intro l h' hl hh h1 h2 eB hm;cases hp with
   |gO _ _ cap bG hc=>
    subst hc;obtain rfl:h'=0:=by omega
    obtain rfl:l=0:=by omega
    have kN:(Instr.sliceBounds true 0 0 (lo.map a.eval) (hi.map a.eval) (mx.map a.eval)).run P w=.ok (0,0,0) w:=by
     rcases hm with rfl|⟨m,m1,m2,m3,m4,m5⟩
     ·exact iZ he hl hh (.inl ⟨rfl,rfl⟩) h1 (fw _) (fw _) (λ_=>fw _)
     ·obtain rfl:m=0:=by omega
      exact iZ he hl hh (.inr ⟨m1,m2,m3 _⟩) h1 m4 (fw _) (λe=>by grind)
    exact dN hs (v:=.slice bG 0 0) (by simp[Instr.sliceAt,Instr.slice,run_underlying (fA hu),kN,dU eB]) (.gO _ _ _ _ rfl)
   |ms _ _ _ cap r addr ho eR ga iK=>
    obtain⟨o,e2,e3⟩:=hs.at hg ho;cases e3 with
    |cells _ _ cs ty vr eo h0 jR kI Gn hV=>
     obtain⟨m,kN,R1,hmc⟩: ∃m,(Instr.sliceBounds true len cap (lo.map a.eval) (hi.map a.eval) (mx.map a.eval)).run P w=.ok (l,h',m) w/\h'<=m/\m<=cap:=by
      rcases hm with rfl|⟨m,m1,m2,m3,m4,m5⟩
      ·exact⟨cap,iZ he hl hh (.inl ⟨rfl,rfl⟩) h1 (by omega) (fw _) (λ_=>by omega),by omega,fw _⟩
      ·exact⟨m,iZ he hl hh (.inr ⟨m1,m2,m3 _⟩) h1 m4 (by omega) (λe=>by grind),m4,by omega⟩
     subst eo;have run:(Instr.sliceAt t (.slice (some ⟨r.block,addr,none⟩) len cap) (lo.map a.eval) (hi.map a.eval) (mx.map a.eval)).run P w=
       .ok (.slice (some ⟨r.block,if m=l then addr else addr+l*r.cq,none⟩) (h'-l) (m-l)) w:=by
      simp[Instr.sliceAt,Instr.slice,run_underlying (fA hu),kN,dU eB,nP];split<;>rfl
     refine dN hs run (.ms _ _ _ _ r _ ho (by omega) ?_ λAx=>?_)
     ·refine AW ?_ ga;exact YN (DA _ (by omega)) _
     grind
  split at h
  ·grind
  ·rename_i l h' m0 hl hh;split at h
   case h_2=>cases h
   rename_i m hm;split at h
   case isFalse=>cases h
   rename_i hc;cases h;exact main hl hh hc.1 (by omega) hc.2.2.2.2 (.inr ⟨m,rfl,hc.2.2.2.1,λd=>by simpa[gh]using hm,hc.2.1,hc.2.2.1⟩)
  ·cases h
 ·rename_i id bq len cap;split at h
  case h_2=>cases h
  rename_i e hu;split at h
  case h_2=>cases h
  rename_i cq elems hg;split at h
  case h_2=>cases h
  rename_i l h' hl hh;split at h
  case isFalse=>cases h
  rename_i hc;obtain⟨h1,h2,eB⟩:=hc;cases h;cases hp with
  |mE _ _ bG=>
   obtain rfl:h'=0:=by omega
   obtain rfl:l=0:=by omega
   have kN:=iZ (P:=P) (w:=w) (Y0:=true) (len:=0) (cap:=0) (mx:=none) he hl hh (.inl ⟨rfl,rfl⟩) h1 (fw _) (fw _) (λ_=>fw _);simp only[RY]at kN;exact dN hs (v:=.slice bG 0 0) (by simp[Instr.sliceAt,Instr.slice,run_underlying (fA hu),kN,dU eB]) (.mE _ _ _)
  |mc _ _ _ _ r addr ho eR ga iK=>
   obtain⟨o,e2,e3⟩:=hs.at hg ho;cases e3 with
   |cells _ _ cs ty vr eo h0 jR kI Gn hV=>
    have kN:=iZ (P:=P) (w:=w) (Y0:=true) (len:=len) (cap:=cap) (mx:=none) he hl hh (.inl ⟨rfl,rfl⟩) h1 h2 (fw _) (λ_=>h2);simp only[RY]at kN;subst eo;have run:(Instr.sliceAt t (.slice (some ⟨r.block,addr,none⟩) len cap) (lo.map a.eval) (hi.map a.eval) none).run P w=
      .ok (.slice (some ⟨r.block,if cap=l then addr else addr+l*r.cq,none⟩) (h'-l) (cap-l)) w:=by
     simp[Instr.sliceAt,Instr.slice,run_underlying (fA hu),kN,dU eB,nP];split<;>rfl
    refine dN hs run (.mc _ _ _ _ r _ ho (by omega) ?_ λAx=>?_)
    all_goals grind
 ·cases h
end
end Go.Am
end
section
namespace Go.Am
open Go.RowKit
section
variable {P:Program} {G:bS} {s s':St} {w:World} {bf:Env} {a:Act}
theorem eG.move{w':World}(h:eG G s w){id:Nat}{blk sD:gM}{r r':tx}{o:Obj}(hg:bn s.heap id=some blk)(ho:G.own id=some r)(hb:r'.block=r.block)
  (hs:w'.heap.size=w.heap.size) (hos:w'.os=w.os) (ht:w'.tape=w.tape) (As:w'.output=w.output)
  (hk: ∀b,b≠r.block->w'.heap[b]? =w.heap[b]?) (hw:w'.heap[r.block]? =some o) (hh:Holds (G.put s.bN r') r' sD o) (tC:blk≠ .gq) (PB:w.drawn<=w'.drawn:=by exact fw _):
  eG (G.put s.bN r') ⟨(s.bN,sD)::dZ s.heap id,s.bN+1⟩ w'/\Ext G s w (G.put s.bN r') ⟨(s.bN,sD)::dZ s.heap id,s.bN+1⟩ w':=by
 have eR:ss G (G.put s.bN r'):=.put (h.cj _ (fw _));have fG:id≠s.bN:=λe=>by rw[h.cj id (by omega)]at ho;cases ho
 have jF: ∀i b,bn ((s.bN,sD)::dZ s.heap id) i=some b->(i=s.bN/\b=sD)\/(i≠s.bN/\i≠id/\bn s.heap i=some b):=λi b hi=>by
  grind [cG,fO]
 have je: ∀i,i≠s.bN->(G.put s.bN r').own i=G.own i:=λi fG=>by simp[bS.put,fG]
 have ot:(G.put s.bN r').own s.bN=some r':=by simp[bS.put]
 refine⟨⟨?_,?_,?_,?_,?_,?_⟩,⟨eR,hos,ht,As,by omega,?_,?_,?_,?_,by simp,?_,λi hl LJ=>by grind,PB⟩⟩
 ·refine⟨λb i v hi=>?_,.mono eR.ig h.lW.2⟩;have fG:b≠r.block:=λe=>by subst e;have h2:=h.clear id _ r i hg ho;rw[show G.ig r.block i=some v from hi]at h2;cases h2
  have:=h.ig b i v hi
  grind [World.cell?_of_block]
 ·intro i b hi;rcases jF i b hi with⟨rfl,rfl⟩|⟨n1,n2,pW⟩
  ·grind
  ·rcases h.heap i b pW with⟨r1,o1,e1,e2,e3⟩|⟨e1,e2⟩
   ·exact .inl ⟨r1,o1,by grind,by rw[hk _ (h.apart i id b _ r1 r pW hg e1 ho n2)];exact e2,e3.mono eR⟩
   grind
 ·intro i i' b b' r1 r2 h1 h2 o1 o2 oz;rcases jF i b h1 with⟨rfl,rfl⟩|⟨n1,m1,g1⟩<;>rcases jF i' b' h2 with⟨rfl,rfl⟩|⟨n2,m2,g2⟩
  ·grind
  ·rw[ot]at o1;cases o1;rw[je _ n2]at o2;rw[hb];exact h.apart id i' _ b' r r2 hg g2 ho o2 (λe=>m2 e.symm)
  ·rw[ot]at o2;cases o2;rw[je _ n1]at o1;rw[hb];exact h.apart i id b _ r1 r g1 hg o1 ho m1
  ·rw[je _ n1]at o1;rw[je _ n2]at o2;exact h.apart i i' b b' r1 r2 g1 g2 o1 o2 oz
 ·intro i b r1 j hi LJ;rcases jF i b hi with⟨rfl,rfl⟩|⟨n1,m1,g1⟩
  ·rw[ot]at LJ;cases LJ;rw[hb];exact h.clear id _ r j hg ho
  ·rw[je _ n1]at LJ;exact h.clear i b r1 j g1 LJ
 ·intro i hi;rw[je i (by grind)];exact h.cj i (by grind)
 ·intro i b hi;show i<s.bN+1;rcases jF i b hi with⟨rfl,rfl⟩|⟨n1,m1,g1⟩
  ·omega
  ·have:=h.lt i b g1;omega
 ·intro b pW hn;exact hk b λe=>hn ⟨id,blk,r,hg,ho,e.symm⟩
 ·intro b o v hi;exact .inl hi
 ·intro i r1 hi;simp only[bS.put]at hi;split at hi
  ·cases hi;exact .inr (.inr ⟨id,blk,r,hg,ho,hb.symm⟩)
  grind
 ·grind
 ·intro i hi;have h1:i≠s.bN:=λe=>by
   subst e;have:=h.lt s.bN _ hi;omega
  have h2:i≠id:=λe=>by grind
  simp only[df,cG];rw[fN (λe=>h1 e.symm),fO,fN (λe=>h2 e.symm)];exact hi
theorem VL.append{xs ys:List AV}{vs us:Array Value}(h:VL G xs vs)(k:VL G ys us):VL G (xs++ys) (vs++us):=by
 refine⟨by simp[h.1,k.1],λi x y hx hy=>?_⟩;by_cases hi:i<xs.length
 ·rw[Aq hi]at hx;rw[zD0 (by rw[<-h.1];exact hi)]at hy;exact h.2 i x y hx hy
 ·rw[DB (by omega)]at hx;rw[Array.getElem?_append_right (by rw[<-h.1];omega),<-h.1]at hy;exact k.2 _ x y hx hy
theorem fQ(hs:eG G s w){e:TypeId}{x:AV}{xv:Value}(hx:V G x xv){l:List AV}(hl:fk x s=some l){sz:Nat}(eB:cK P e=some sz)(hf:jS P e x s):
  (∀y∈l,y.cells.length=sz)/\(∀y∈de l,y.cJ=true)/\(Builtin.lenOf xv).run P w=.ok l.length w/\
  ∀n,n<=l.length-> ∃vs,(∀w',(∀a,w'.cell? a=w.cell? a)->(Builtin.firstCells sz n xv).run P w'=.ok vs w')/\VL G (de (l.take n)) vs:=by
 have load: ∀(b o n:Nat)(cs:List AV),qj G w b o cs->n<=cs.length-> ∃vs,(∀w',(∀a,w'.cell? a=w.cell? a)->(loadCells ⟨b,o,none⟩ n).run P w'=.ok vs w')/\VL G (cs.take n) vs:=by
  intro b o n cs ht hn;obtain⟨vs,e1,e2⟩:=ht.loadCells (P:=P) hn;refine⟨vs,λw' hw=>?_,e2⟩;have Gp:qj G w' b o cs:=λk x hx=>by rw[hw];exact ht k x hx
  obtain⟨vs',e1',VS⟩:=Gp.loadCells (P:=P) hn;have:vs'=vs:=by
   have q: ∀w':World,(∀a,w'.cell? a=w.cell? a)->(loadCells ⟨b,o,none⟩ n).run P w'=.ok ((List.range n).map λj=>(w.cell? ⟨b,o+j,none⟩).getD undef).toArray w':=λw' hw=>by
    refine run_loadCells w' _ n _ λj hj=>?_;rw[nP,hw];obtain⟨v,hv,_⟩:=ht j cs[j] (dF (by omega));simp[hv]
   grind
  grind
 unfold fk at hl;split at hl
 ·rename_i full elems;cases hl;obtain⟨bG,cap,rfl,eR,_,hb,hz⟩:=V.oY hx;rcases hz with rfl|⟨b,off,cq,val,rfl,eo,kI,gE,hV⟩
  ·refine⟨by simp,by simp[de],by rfl,λn hn=>⟨#[],λw' _=>?_,by simp[de];exact⟨rfl,by simp⟩⟩⟩;have:n=0:=by grind
   subst this;cases bG<;>simp[Builtin.firstCells,loadCells,loadCellsFrom]
  ·have jB: ∀y∈l,y.cells.length=sz:=λy hy=>by
    have:=B6 (P:=P) hf eo (λe=>by grind)
    grind
   refine⟨jB,kI,by rfl,λn hn=>?_⟩;obtain⟨vs,e1,e2⟩:=load b off (n*sz) _ (Kd hs eo gE hV) (by simp_all[dD,DA]);refine⟨vs,λw' hw=>by simpa[Builtin.firstCells]using e1 w' hw,?_⟩;have:(de l).take (n*sz)=de (l.take n):=by
    conv=>lhs;rw[<-VF n l,dx]
    rw[List.take_append_of_le_length (by rw[dD (cq:=sz) λy hy=>jB y (JZ hy)];grind)];rw[sq (by rw[dD (cq:=sz) λy hy=>jB y (JZ hy)];grind)]
   grind
 ·rename_i id bq len;split at hl
  case h_2=>cases hl
  rename_i cq elems hg;split at hl
  case isFalse=>cases hl
  rename_i ga;cases hl;have DJ:cK P e=some cq:=by simpa[jS,hg]using hf
  rw[eB]at DJ;cases DJ;cases hx with
  |gO _ _ cap bG hc=>
   subst hc;rw[S9];refine⟨by simp,by simp[de],by rfl,λn hn=>?_⟩;obtain rfl:n=0:=by grind
   refine⟨#[],λw' _=>?_,by simp[de];exact⟨rfl,by simp⟩⟩;cases bG<;>simp[Builtin.firstCells,loadCells,loadCellsFrom]
  |ms _ _ _ cap r addr ho eR Qb iK=>
   obtain⟨o,e2,e3⟩:=hs.at hg ho;cases e3 with
   |cells _ _ cs ty vr eo h0 jR kI Gn hV=>
    subst eo;have dK:((elems.drop bq).take len).length=len:=by simp;omega
    have mu: ∀y∈(elems.drop bq).take len,y∈elems:=λy hy=>PW (JZ hy);refine⟨λy hy=>jR y (mu y hy),λx hx=>kI x (by
     rw[de,tw]at hx |-
     grind),by simp[Builtin.lenOf];omega,λn hn=>?_⟩
    rw[dK]at hn;rw[List.take_take,Nat.min_eq_left hn];by_cases Tj:n=0
    ·subst Tj;exact⟨#[],λw' _=>by simp[Builtin.firstCells,loadCells,loadCellsFrom],by simp[de];exact⟨rfl,by simp⟩⟩
    ·have ht:qj G w r.block (r.bG+bq*r.cq) (de (elems.drop bq)):=by
      intro k x hx;have hd: ∀y∈elems.drop bq,y.cells.length=r.cq:=λy hy=>jR y (PW hy);have hk:(de elems)[bq*r.cq+k]? =some x:=by
       grind [ij,List.take_length]
      obtain⟨v,q1,q2⟩:=hV _ x hk;exact⟨v,by simp only[World.cell?,e2];grind,q2⟩
     have hd: ∀y∈elems.drop bq,y.cells.length=r.cq:=λy hy=>jR y (PW hy);obtain⟨vs,q1,q2⟩:=load r.block (r.bG+bq*r.cq) (n*r.cq) _ ht (by rw[dD hd];exact DA _ (by simp;omega));refine⟨vs,λw' hw=>by rw[iK (by omega)];simpa[Builtin.firstCells]using q1 w' hw,?_⟩;have Gq: ∀y∈(elems.drop bq).take n,y.cells.length=r.cq:=λy hy=>hd y (JZ hy);have hln:((elems.drop bq).take n).length=n:=by simp;omega
     have:(de (elems.drop bq)).take (n*r.cq)=de ((elems.drop bq).take n):=by
      conv=>lhs;rw[<-VF n (elems.drop bq),dx]
      rw[List.take_append_of_le_length (by simp_all[dD])];rw[sq (by simp_all[dD])]
     grind
 ·cases hl
end
end Go.Am
end
