/- The logic AM, A: abstract values and states; operations; moves; the rules; soundness of the first operations. -/
import Derived.RangeFuncLeaves
import Derived.OrdersIn
import Derived.Laws.Cells
import Derived.Laws.CopyRow
import Derived.Laws.World
import Derived.RowKit3
import Derived.Below
import Derived.Laws.Append
set_option linter.all false
section
namespace Go.Am
abbrev cH:=@Option.bind_some
abbrev dC:=@List.getElem?_eq_getElem
abbrev eu:=@Nat.le_refl
abbrev eW:=@Bool.and_eq_true
abbrev fM:=@List.getElem?_eq_some_iff
abbrev gl:=@Option.map_some
abbrev gx:=@List.mem_of_getElem?
abbrev iU:=@Nat.eq_of_beq_eq_true
abbrev kb:=@List.mem_map
abbrev kc:=@List.length_append
abbrev kF:=@Int.lt_irrefl
abbrev la:=@List.mem_append
abbrev mA:=@List.length_map
abbrev mB:=@List.mem_cons
abbrev mC:=@List.mem_filter
abbrev nq:=@List.getElem?_append_left
abbrev nv:=@Int.toNat_natCast
abbrev oc:=@List.length_cons
abbrev oe:=@Bool.not_true
abbrev pn:=@List.getElem?_append_right
abbrev py:=@List.all_eq_true
abbrev pA:=@List.getElem_of_mem
abbrev pC:=@Bool.not_eq_true'
abbrev qY:=@List.nil_append
abbrev qZ:=@Nat.blt_eq
abbrev rP:=@List.take_of_length_le
abbrev sK:=@List.getElem?_map
abbrev sL:=@List.mem_flatMap
abbrev sM:=@List.length_filter_le
abbrev sS:=@Bool.or_eq_true
abbrev sT:=@Nat.le_of_ble_eq_true
abbrev uw:=@Nat.add_mul
abbrev vp:=@Sum.elim_inl
abbrev vS:=@Nat.le_trans
abbrev vT:=@List.cons_append
abbrev wx:=@List.append_nil
abbrev wy:=@List.map_cons
abbrev wz:=@Array.getD_eq_getD_getElem?
abbrev w8:=@List.mem_of_mem_take
abbrev w9:=@List.any_eq_true
abbrev zo:=@List.getElem_mem
abbrev zp:=@Nat.mul_le_mul_right
abbrev zX:=@Nat.zero_le
abbrev zY:=@Option.isSome_iff_exists
abbrev Ba:=@Nat.zero_add
abbrev Bb:=@List.take_length
abbrev Bc:=@Option.getD_some
abbrev Bd:=@List.mem_range
abbrev CC:=@Nat.add_assoc
abbrev CD:=@Nat.add_zero
abbrev CE:=@List.map_append
abbrev CF:=@List.mem_append_left
abbrev CG:=@List.pairwise_cons
abbrev CS:=@List.length_take
abbrev CT:=@List.append_assoc
abbrev EH:=@Bool.or_eq_false_iff
abbrev EI:=@Nat.lt_or_ge
abbrev EJ:=@List.map_drop
abbrev EK:=@List.mem_append_right
abbrev EL:=@List.filter_append
abbrev EM:=@List.getElem?_set_ne
abbrev EN:=@List.pairwise_iff_getElem
abbrev E5:=@List.flatMap_cons
abbrev E6:=@Array.length_toList
abbrev E7:=@Bool.not_false
abbrev GF:=@List.mem_of_mem_drop
abbrev GG:=@Bool.false_or
abbrev GH:=@Option.map_eq_some_iff
abbrev GI:=@List.getElem?_set_self
abbrev GJ:=@List.pairwise_map
abbrev Is:=@List.map_map
abbrev Iv:=@List.mem_cons_of_mem
abbrev Iw:=@Nat.ble_eq
abbrev JO:=@List.eq_nil_of_length_eq_zero
abbrev JP:=@Array.getElem?_eq_getElem
abbrev JQ:=@List.length_nil
abbrev JR:=@Nat.lt_trichotomy
abbrev J8:=@List.getElem?_drop
abbrev J9:=@List.map_take
abbrev Nu:=@Nat.beq_refl
abbrev Nv:=@Nat.min_eq_left
abbrev Nw:=@List.eq_of_mem_replicate
abbrev Ny:=@List.any_eq_false
abbrev Nz:=@List.length_take_le
abbrev PH:=@Array.getElem?_eq_some_iff
abbrev PI:=@Nat.sub_self
abbrev PJ:=@List.take_append_drop
abbrev PK:=@List.map_nil
abbrev PL:=@List.getElem?_mapIdx
abbrev QL:=@List.mem_singleton
abbrev QN:=@Nat.lt_of_lt_of_le
abbrev QO:=@Nat.mul_comm
abbrev QP:=@Option.map_none
abbrev QQ:=@Nat.add_le_add_left
abbrev QR:=@List.take_zero
abbrev QS:=@List.take_take
abbrev QT:=@Array.eq_empty_of_size_eq_zero
abbrev QU:=@List.length_pos_iff
abbrev QV:=@List.foldl_cons
abbrev Td:=@Nat.lt_succ_self
abbrev Te:=@List.getElem?_take
abbrev Tf:=@List.length_drop
abbrev Tg:=@Bool.true_and
abbrev Th:=@List.filter_cons
abbrev Ti:=@List.length_singleton
abbrev Tj:=@Nat.le_of_lt
abbrev Tk:=@Int.natCast_nonneg
abbrev Tl:=@List.take_left'
abbrev Tm:=@List.ext_getElem?
abbrev T7:=@Nat.zero_mul
abbrev Ua:=@List.size_toArray
abbrev Ub:=@List.length_replicate
abbrev Uc:=@Array.getElem?_setIfInBounds_ne
abbrev Ud:=@Nat.ble_eq_true_of_le
abbrev Ue:=@List.any_cons
abbrev Uf:=@Nat.mul_add
abbrev Ug:=@List.flatMap_nil
abbrev Uh:=@Bool.or_false
abbrev Ui:=@List.findIdx?_eq_some_iff_getElem
abbrev Uj:=@List.filter_sublist
abbrev WB:=@List.sum_cons
abbrev WD:=@Nat.div_add_mod
abbrev WE:=@List.all_cons
abbrev WG:=@List.getElem?_set
abbrev WH:=@List.mem_or_eq_of_mem_set
abbrev WI:=@Array.getElem?_append_left
abbrev WJ:=@List.take_append_of_le_length
abbrev WK:=@Nat.mul_eq_zero
abbrev WL:=@List.getElem?_replicate
abbrev WM:=@Array.toList_map
abbrev WN:=@List.drop_zero
abbrev WO:=@Bool.or_assoc
abbrev WQ:=@List.flatMap_append
abbrev WR:=@List.filter_eq_nil_iff
abbrev WS:=@List.findIdx?_eq_none_iff
abbrev WT:=@Nat.add_sub_cancel
abbrev WU:=@List.exists_cons_of_ne_nil
abbrev WV:=@Bool.false_and
abbrev WW:=@List.pairwise_append
abbrev X1:=@Nat.mul_le_mul_left
abbrev X2:=@Array.getElem!_eq_getD
abbrev X3:=@Array.getElem?_toList
abbrev X4:=@Bool.false_eq_true
abbrev X5:=@List.length_pos_of_mem
abbrev X6:=@Array.getElem?_eq_none
abbrev X7:=@List.range_eq_range'
abbrev X8:=@List.drop_eq_getElem_cons
abbrev X9:=@Bool.not_eq_false'
abbrev Ya:=@List.find?_eq_none
abbrev Yb:=@List.flatten_append
abbrev Yc:=@List.filter_cons_of_pos
abbrev Yd:=@List.filter_cons_of_neg
abbrev Ye:=@List.foldl_append
abbrev Yf:=@List.mergeSort_perm
abbrev Yg:=@List.pairwise_mergeSort
abbrev Yh:=@List.take_set_of_le
abbrev Yi:=@List.getElem?_zip_eq_some
abbrev Yj:=@List.all_eq_false
abbrev Yk:=@Int.lt_trichotomy
abbrev zEP:=@Array.all_eq_true_iff_forall_mem
open Go.RowKit
inductive AV where
 |bool (b:Bool)
 |int (k:IntKind) (n:Int)
 |str (s:ByteArray)
 |ij
 |mD
 |sl (full:Bool) (elems:List AV)
 |ip (cells:List AV)
 |mp (id el off:Nat)
 |ms (id bL len:Nat)
 |mc (id bL len cap:Nat)
 |fn (f:FuncId) (fH:List AV)
 |kt (id:Nat)
 |agg (cells:List AV)
 |dW (vs:List AV)
 |any
 deriving Inhabited
abbrev AV.i(n:Int):AV:=.int .i64 n
def AV.cells:AV->List AV
 |.agg cs=>cs
 |v=>[v]
def AV.isAgg:AV->Bool
 |.agg _=>true
 |_=>false
def AV.cS:AV->Bool
 |.agg _|.dW _|.any=>false
 |_=>true
def di(l:List AV):List AV:=l.flatMap AV.cells
structure ux where
 block:Nat
 bQ:Nat
 cz:Nat
 size:Nat
structure bZ where
 gD:Nat->Nat->Option Value
 own:Nat->Option ux
inductive V (G:bZ):AV->Value->Prop
 |any (v:Value):V G .any v
 |bool (b:Bool):V G (.bool b) (.bool b)
 |int (k:IntKind) (n:Int):V G (.int k n) (.int k n)
 |str (s:ByteArray):V G (.str s) (.string s)
 |ij:V G .ij (.pointer none)
 |mD:V G .mD .nilFunc
 |slnil (full:Bool) (bQ:Option Addr) (cap:Nat) (hf:full=true->cap=0) (hb:bQ=none->cap=0):V G (.sl full []) (.slice bQ 0 cap)
 |sl (full:Bool) (elems:List AV) (b off cz cap:Nat) (val:Nat->Value) (jG:elems.length<=cap) (jB:full=true->cap=elems.length)
  (dS: ∀e∈elems,e.cells.length=cz) (jg: ∀x∈di elems,x.cS=true) (gF: ∀k,k<elems.length*cz->G.gD b (off+k)=some (val k))
  (hV: ∀k x,(di elems)[k]? =some x->V G x (val k)):V G (.sl full elems) (.slice (some ⟨b,off,none⟩) elems.length cap)
 |ip (cells:List AV) (b off:Nat) (val:Nat->Value) (gF: ∀k,k<cells.length->G.gD b (off+k)=some (val k))
  (hV: ∀k x,cells[k]? =some x->V G x (val k)):V G (.ip cells) (.pointer (some ⟨b,off,none⟩))
 |mp (id el off:Nat) (r:ux) (h:G.own id=some r):V G (.mp id el off) (.pointer (some ⟨r.block,r.bQ+el*r.cz+off,none⟩))
 |ms (id bL len cap:Nat) (r:ux) (addr:Nat) (h:G.own id=some r) (ep:len<=cap) (eP:r.bQ+(bL+cap)*r.cz<=r.size)
  (gm:0<cap->addr=r.bQ+bL*r.cz):V G (.ms id bL len) (.slice (some ⟨r.block,addr,none⟩) len cap)
 |gn (id bL cap:Nat) (bQ:Option Addr) (hc:cap=0):V G (.ms id bL 0) (.slice bQ 0 cap)
 |mc (id bL len cap:Nat) (r:ux) (addr:Nat) (h:G.own id=some r) (ep:len<=cap) (eP:r.bQ+(bL+cap)*r.cz<=r.size)
  (gm:0<cap->addr=r.bQ+bL*r.cz):V G (.mc id bL len cap) (.slice (some ⟨r.block,addr,none⟩) len cap)
 |mH (id bL:Nat) (bQ:Option Addr):V G (.mc id bL 0 0) (.slice bQ 0 0)
 |fn (f:FuncId) (fH:List AV) (vs:Array Value) (dt:fH.length=vs.size) (h: ∀(i:Nat)x y,fH[i]? =some x->vs[i]? =some y->V G x y):
  V G (.fn f fH) (.func (.func f) #[] vs)
 |kt (id:Nat) (r:ux) (h:G.own id=some r):V G (.kt id) (.func (.yield r.block) #[] #[])
 |agg (cs:List AV) (vs:Array Value) (dt:cs.length=vs.size) (h: ∀(i:Nat)x y,cs[i]? =some x->vs[i]? =some y->V G x y):V G (.agg cs) (.agg vs)
 |dW (cs:List AV) (vs:Array Value) (dt:cs.length=vs.size) (h: ∀(i:Nat)x y,cs[i]? =some x->vs[i]? =some y->V G x y):V G (.dW cs) (.tuple vs)
def VL(G:bZ)(cs:List AV)(vs:Array Value):Prop:=cs.length=vs.size/\ ∀(i:Nat)x y,cs[i]? =some x->vs[i]? =some y->V G x y
structure rC (G G':bZ):Prop where
 gD: ∀b o v,G.gD b o=some v->G'.gD b o=some v
 own: ∀id r,G.own id=some r->G'.own id=some r
theorem rC.refl(G:bZ):rC G G:=⟨λ_ _ _ h=>h,λ_ _ h=>h⟩
theorem rC.trans{A B C:bZ}(h:rC A B)(k:rC B C):rC A C:=⟨λ_ _ _ x=>k.gD _ _ _ (h.gD _ _ _ x),λ_ _ x=>k.own _ _ (h.own _ _ x)⟩
theorem V.mono{G G':bZ}(hG:rC G G'){x:AV}{v:Value}(h:V G x v):V G' x v:=by
 induction h with
 |any v=>exact .any v
 |bool b=>exact .bool b
 |int k n=>exact .int k n
 |str s=>exact .str s
 |ij=>exact .ij
 |mD=>exact .mD
 |slnil full bQ cap hf hb=>exact .slnil full bQ cap hf hb
 |sl full elems b off cz cap val jG jB dS jg gF _ ih=>exact .sl full elems b off cz cap val jG jB dS jg (λk hk=>hG.gD _ _ _ (gF k hk)) ih
 |ip cells b off val gF _ ih=>exact .ip cells b off val (λk hk=>hG.gD _ _ _ (gF k hk)) ih
 |mp id el off r h=>exact .mp id el off r (hG.own _ _ h)
 |ms id bL len cap r addr h ep eP ha=>exact .ms id bL len cap r addr (hG.own _ _ h) ep eP ha
 |gn id bL cap bQ hc=>exact .gn id bL cap bQ hc
 |mc id bL len cap r addr h ep eP ha=>exact .mc id bL len cap r addr (hG.own _ _ h) ep eP ha
 |mH id bL bQ=>exact .mH id bL bQ
 |fn f fH vs dt _ ih=>exact .fn f fH vs dt ih
 |kt id r h=>exact .kt id r (hG.own _ _ h)
 |agg cs vs dt _ ih=>exact .agg cs vs dt ih
 |dW cs vs dt _ ih=>exact .dW cs vs dt ih
theorem VL.mono{G G':bZ}(hG:rC G G'){cs:List AV}{vs:Array Value}(h:VL G cs vs):VL G' cs vs:=⟨h.1,λi x y hx hy=>(h.2 i x y hx hy).mono hG⟩
abbrev Env:=List (Nat×AV)
def bH{β:Type}:List (Nat×β)->Nat->Option β
 | [],_=>none
 |(k,x)::r,i=>bif Nat.beq k i then some x else bH r i
def dT{β:Type}:List (Nat×β)->Nat->β->List (Nat×β)
 | [],i,x=>[(i,x)]
 |(k,y)::r,i,x=>bif Nat.beq k i then(i,x)::r else(k,y)::dT r i x
theorem Ka{α:Type}(k i:Nat)(x y:α):(bif Nat.beq k i then x else y)=if k=i then x else y:=by
 by_cases h:k=i
 ·subst h;rw[if_pos rfl,show Nat.beq k k=true from Nu k];rfl
 ·rw[if_neg h]
  have:Nat.beq k i=false:=by
   cases hb:Nat.beq k i with
   |false=>rfl
   |true=>exact absurd (iU hb) h
  rw[this];rfl
theorem cR{β:Type}(i:Nat):bH ([]:List (Nat×β)) i=none:=rfl
theorem cG{β:Type}(k:Nat)(x:β)(r:List (Nat×β))(i:Nat):bH ((k,x)::r) i=if k=i then some x else bH r i:=Ka k i _ _
theorem Kb{β:Type}(i:Nat)(x:β):dT [] i x=[(i,x)]:=rfl
theorem sU{β:Type}(k:Nat)(y:β)(r:List (Nat×β))(i:Nat)(x:β):dT ((k,y)::r) i x=if k=i then(i,x)::r else(k,y)::dT r i x:=Ka k i _ _
def eh{β:Type}:List (Nat×β)->Nat->List (Nat×β)
 | [],_=>[]
 |(k,y)::r,i=>if k=i then eh r i else(k,y)::eh r i
theorem eC{β:Type}(l:List (Nat×β))(i j:Nat)(x:β):bH (dT l i x) j=if i=j then some x else bH l j:=by
 induction l with
 |nil=>simp[Kb,sU,cR,cG]
 |cons a r ih=>
  obtain⟨k,y⟩:=a
  simp only[Kb,sU,cR,cG]
  split
  ·rename_i h;subst h;simp only[cR,cG];split<;>rfl
  ·rename_i h;simp only[cR,cG,ih];split
   ·rename_i h2;subst h2;rw[if_neg (by omega)]
   ·rfl
theorem fw{β:Type}(l:List (Nat×β))(i j:Nat):bH (eh l i) j=if i=j then none else bH l j:=by
 induction l with
 |nil=>simp[eh,cR,cG]
 |cons a r ih=>
  obtain⟨k,y⟩:=a
  simp only[eh]
  split
  ·rename_i h;subst h;simp only[cR,cG,ih];split<;>rfl
  ·rename_i h;simp only[cR,cG,ih];split
   ·rename_i h2;subst h2;rw[if_neg (by omega)]
   ·rfl
structure vq where
 bI:Env
 ntmps:Nat
 params:List Tmp
 assign:Code
 body:Code
 state:LoopState
 pending:Option Code
inductive gp where
 |cells (cz:Nat) (elems:List AV)
 |loop (l:vq)
 |gb
structure St where
 heap:List (Nat×gp)
 bS:Nat
def iX(G:bZ)(bI:Env)(tmps:Array Value):Prop:= ∀t x,bH bI t=some x->t<tmps.size/\V G x (tmps.getD t undef)
theorem iX.mono{G G':bZ}(hG:rC G G'){bI:Env}{tmps:Array Value}(h:iX G bI tmps):iX G' bI tmps:=λt x hx=>⟨(h t x hx).1,(h t x hx).2.mono hG⟩
inductive Holds (G:bZ) (r:ux):gp->Obj->Prop
 |cells (cz:Nat) (elems:List AV) (cs:Array Value) (e:TypeId) (eo:cs.size=r.size) (dS:r.cz=cz) (h0:0<cz)
  (iz: ∀x∈elems,x.cells.length=cz) (jg: ∀x∈di elems,x.cS=true) (eP:r.bQ+elems.length*cz<=r.size)
  (hV: ∀k x,(di elems)[k]? =some x-> ∃v,cs[r.bQ+k]? =some v/\V G x v):Holds G r (.cells cz elems) (.cells cs e (0,0))
 |loop (l:vq) (fn:FuncId) (tmps:Array Value) (d:Nat) (eo:tmps.size=l.ntmps) (hV:iX G l.bI tmps):
  Holds G r (.loop l) (.loop {state:=l.state,pending:=l.pending,fn:=fn,tmps:=tmps,params:=l.params.toArray,assign:=l.assign,body:=l.body,defers:=d})
 |gb:Holds G r .gb (.deferred (some []))
theorem Holds.mono{G G':bZ}(hG:rC G G'){r:ux}{b:gp}{o:Obj}(h:Holds G r b o):Holds G' r b o:=by
 cases h with
 |cells cz elems cs e eo dS h0 iz jg eP hV=>exact .cells cz elems cs e eo dS h0 iz jg eP λk x hx=>let⟨v,a,b⟩:=hV k x hx;⟨v,a,b.mono hG⟩
 |loop l fn tmps d eo hV=>exact .loop l fn tmps d eo (hV.mono hG)
 |gb=>exact .gb
def lI(G:bZ)(s:St)(b:Nat):Prop:= ∃id blk r,bH s.heap id=some blk/\G.own id=some r/\r.block=b
structure eA (G:bZ) (s:St) (w:World):Prop where
 gD: ∀b o v,G.gD b o=some v->w.cell? ⟨b,o,none⟩=some v
 heap: ∀id blk,bH s.heap id=some blk->(∃r o,G.own id=some r/\w.heap[r.block]? =some o/\Holds G r blk o)\/(G.own id=none/\ ∃cz,0<cz/\blk=.cells cz [])
 apart: ∀id fq blk rQ r r',bH s.heap id=some blk->bH s.heap fq=some rQ->G.own id=some r->G.own fq=some r'->id≠fq->r.block≠r'.block
 clear: ∀id blk r o,bH s.heap id=some blk->G.own id=some r->G.gD r.block o=none
 cq: ∀id,s.bS<=id->G.own id=none
 lt: ∀id blk,bH s.heap id=some blk->id<s.bS
theorem eA.at{G:bZ}{s:St}{w:World}(h:eA G s w){id:Nat}{blk:gp}{r:ux}(hg:bH s.heap id=some blk)(ho:G.own id=some r): ∃o,w.heap[r.block]? =some o/\Holds G r blk o:=by
 rcases h.heap id blk hg with⟨r',o,e1,e2,e3⟩|⟨e,_⟩
 ·rw[ho]at e1;cases e1;exact⟨o,e2,e3⟩
 ·rw[ho]at e;cases e
structure Ext (G:bZ) (s:St) (w:World) (G':bZ) (s':St) (w':World):Prop where
 le:rC G G'
 os:w'.os=w.os
 tape:w'.tape=w.tape
 output:w'.output=w.output
 size:w.heap.size<=w'.heap.size
 keep: ∀b,b<w.heap.size-> ¬lI G s b->w'.heap[b]? =w.heap[b]?
 jh: ∀b o v,G'.gD b o=some v->G.gD b o=some v\/w.heap.size<=b\/lI G s b
 iK: ∀id r,G'.own id=some r->G.own id=some r\/(w.heap.size<=r.block\/lI G s r.block)
 ids: ∀id blk,bH s'.heap id=some blk->(∃QW,bH s.heap id=some QW)\/s.bS<=id
 bS:s.bS<=s'.bS
 gb: ∀id,bH s.heap id=some .gb->bH s'.heap id=some .gb
 stay: ∀id,id<s.bS->G.own id=none->G'.own id=none
 drawn:w.drawn<=w'.drawn
theorem Ext.refl(G:bZ)(s:St)(w:World):Ext G s w G s w:=
 ⟨.refl G,rfl,rfl,rfl,eu _,λ_ _ _=>rfl,λ_ _ _ h=>.inl h,λ_ _ h=>.inl h,λ_ _ h=>.inl ⟨_,h⟩,eu _,λ_ h=>h,λ_ _ h=>h,eu _⟩
theorem Ext.trans{G0 G1 G2:bZ}{s0 s1 s2:St}{w0 w1 w2:World}(h0:eA G0 s0 w0)(a:Ext G0 s0 w0 G1 s1 w1)(b:Ext G1 s1 w1 G2 s2 w2):
  Ext G0 s0 w0 G2 s2 w2:=by
 have own: ∀x,lI G1 s1 x->w0.heap.size<=x\/lI G0 s0 x:=by
  rintro x ⟨id,blk,r,hg,ho,rfl⟩
  rcases a.iK id r ho with h|h
  ·rcases a.ids id blk hg with⟨QW,hb⟩|JS
   ·exact .inr ⟨id,QW,r,hb,h,rfl⟩
   ·rw[h0.cq id JS]at h;cases h
  ·exact h
 refine⟨a.le.trans b.le,b.os.trans a.os,b.tape.trans a.tape,b.output.trans a.output,vS a.size b.size,?_,?_,?_,?_,vS a.bS b.bS,λid h=>b.gb id (a.gb id h),λid hl h=>b.stay id (QN hl a.bS) (a.stay id hl h),vS a.drawn b.drawn⟩
 ·intro x hx hn
  rw[b.keep x (QN hx a.size) (λh=>(own x h).elim (λh=>by omega) hn)]
  exact a.keep x hx hn
 ·intro x o v h
  rcases b.jh x o v h with h|h|h
  ·exact a.jh x o v h
  ·exact .inr (.inl (vS a.size h))
  ·exact .inr (own x h)
 ·intro id r h
  rcases b.iK id r h with h|h|h
  ·exact a.iK id r h
  ·exact .inr (.inl (vS a.size h))
  ·exact .inr (own _ h)
 ·intro id blk h
  rcases b.ids id blk h with⟨Yl,h⟩|h
  ·exact a.ids id Yl h
  ·exact .inr (vS a.bS h)
end Go.Am
end
section
namespace Go.Am
open Go.RowKit
theorem GK{w:World}{b o:Nat}{v:Value}(h:w.cell? ⟨b,o,none⟩=some v):b<w.heap.size:=by
 unfold World.cell? at h
 split at h
 ·rename_i hb;exact(PH.1 hb).1
 ·cases h
theorem eA.rR{G:bZ}{s:St}{w:World}(h:eA G s w){b o:Nat}{v:Value}(hi:G.gD b o=some v):b<w.heap.size:=GK (h.gD _ _ _ hi)
theorem eA.iY{G:bZ}{s:St}{w:World}(h:eA G s w){id:Nat}{blk:gp}{r:ux}(hg:bH s.heap id=some blk)(ho:G.own id=some r):r.block<w.heap.size:=by
 obtain⟨o,e2,_⟩:=h.at hg ho
 exact(PH.1 e2).1
theorem uB{w:World}{o:Obj}{b i:Nat}(hb:b<w.heap.size):(w.alloc o).cell? ⟨b,i,none⟩=w.cell? ⟨b,i,none⟩:=World.cell?_alloc_lt w o _ hb
def bZ.put(G:bZ)(id:Nat)(r:ux):bZ:={gD:=G.gD,own:=λi=>if i=id then some r else G.own i}
theorem rC.put{G:bZ}{id:Nat}{r:ux}(h:G.own id=none):rC G (G.put id r):=
 ⟨λ_ _ _ h=>h,λi r' hi=>by
  simp only[bZ.put]
  split
  ·subst_vars;rw[h]at hi;cases hi
  ·exact hi⟩
theorem eA.put{G:bZ}{s:St}{w:World}(h:eA G s w){o:Obj}{blk:gp}{r:ux}(hr:r.block=w.heap.size)(hh:Holds (G.put s.bS r) r blk o):
  eA (G.put s.bS r) ⟨(s.bS,blk)::s.heap,s.bS+1⟩ (w.alloc o)/\Ext G s w (G.put s.bS r) ⟨(s.bS,blk)::s.heap,s.bS+1⟩ (w.alloc o):=by
 have ep:rC G (G.put s.bS r):=.put (h.cq _ (eu _))
 have pD: ∀id b,bH s.heap id=some b->id≠s.bS:=λid b hg e=>by
  have:=h.lt id b hg
  omega
 have jf: ∀id b,bH ((s.bS,blk)::s.heap) id=some b->(id=s.bS/\b=blk)\/(id≠s.bS/\bH s.heap id=some b):=λid b hg=>by
  simp only[cR,cG]at hg
  split at hg
  ·cases hg;exact .inl ⟨by omega,rfl⟩
  ·exact .inr ⟨by omega,hg⟩
 have gE: ∀id,id≠s.bS->(G.put s.bS r).own id=G.own id:=λid eJ=>by simp[bZ.put,eJ]
 have l8:(G.put s.bS r).own s.bS=some r:=by simp[bZ.put]
 refine⟨⟨?_,?_,?_,?_,?_,?_⟩,⟨ep,rfl,rfl,rfl,by simp,?_,?_,?_,?_,by simp,λid hg=>by simp only[cR,cG];rw[if_neg (λe=>pD id _ hg e.symm)];exact hg,λid hl ho=>by rw[gE id (by omega)];exact ho,eu _⟩⟩
 ·intro b i v hi
  have hb:=h.rR hi
  rw[uB hb];exact h.gD b i v hi
 ·intro id b hg
  rcases jf id b hg with⟨rfl,rfl⟩|⟨eJ,hg⟩
  ·exact .inl ⟨r,o,l8,by rw[hr];show(w.heap.push o)[w.heap.size]? =some o;simp,hh⟩
  ·rcases h.heap id b hg with⟨r',o',e1,e2,e3⟩|⟨e1,e2⟩
   ·have gh:=h.iY hg e1
    exact .inl ⟨r',o',by rw[gE id eJ];exact e1,by rw[Below.heap_alloc _ _ _ gh];exact e2,e3.mono ep⟩
   ·exact .inr ⟨by rw[gE id eJ];exact e1,e2⟩
 ·intro id fq b b' r1 r2 h1 h2 o1 o2 eJ
  rcases jf id b h1 with⟨rfl,rfl⟩|⟨n1,g1⟩<;>rcases jf fq b' h2 with⟨rfl,rfl⟩|⟨n2,g2⟩
  ·exact absurd rfl eJ
  ·rw[l8]at o1;cases o1
   rw[gE _ n2]at o2
   have:=h.iY g2 o2
   omega
  ·rw[l8]at o2;cases o2
   rw[gE _ n1]at o1
   have:=h.iY g1 o1
   omega
  ·rw[gE _ n1]at o1;rw[gE _ n2]at o2
   exact h.apart id fq b b' r1 r2 g1 g2 o1 o2 eJ
 ·intro id b r1 i hg ho
  rcases jf id b hg with⟨rfl,rfl⟩|⟨n1,g1⟩
  ·rw[l8]at ho;cases ho
   cases hi:G.gD r.block i with
   |none=>exact hi
   |some v=>have:=h.rR hi;omega
  ·rw[gE _ n1]at ho
   exact h.clear id b r1 i g1 ho
 ·intro id jC
  rw[gE id (by simp at jC;omega)]
  exact h.cq id (by simp at jC;omega)
 ·intro id b hg
  show id<s.bS+1
  rcases jf id b hg with⟨rfl,rfl⟩|⟨eJ,hg⟩
  ·omega
  ·have:=h.lt id b hg;omega
 ·intro b hb _;exact Below.heap_alloc _ _ _ hb
 ·intro b i v hi;exact .inl hi
 ·intro id r' hi
  simp only[bZ.put]at hi
  split at hi
  ·cases hi;exact .inr (.inl (by omega))
  ·exact .inl hi
 ·intro id b hg
  rcases jf id b hg with⟨rfl,rfl⟩|⟨_,g⟩
  ·exact .inr (eu _)
  ·exact .inl ⟨_,g⟩
theorem eA.drop{G:bZ}{s s':St}{w:World}(h:eA G s w)(hh: ∀id b,bH s'.heap id=some b->bH s.heap id=some b)(hc:s.bS<=s'.bS):eA G s' w:=
 ⟨h.gD,λid b hg=>h.heap id b (hh id b hg),λid fq b b' r r' h1 h2=>h.apart id fq b b' r r' (hh _ _ h1) (hh _ _ h2),λid b r o hg=>h.clear id b r o (hh _ _ hg),λid jC=>h.cq id (by omega),λid b hg=>QN (h.lt id b (hh id b hg)) hc⟩
theorem Ext.drop{G:bZ}{s s':St}{w:World}(hh: ∀id b,bH s'.heap id=some b->bH s.heap id=some b)(hc:s.bS<=s'.bS)
  (hd: ∀id,bH s.heap id=some .gb->bH s'.heap id=some .gb):Ext G s w G s' w:=
 {Ext.refl G s w with ids:=λid b hg=>.inl ⟨b,hh id b hg⟩,bS:=hc,gb:=hd}
theorem eA.drew{G:bZ}{s:St}{w:World}(h:eA G s w):eA G s w.drew:=⟨h.gD,h.heap,h.apart,h.clear,h.cq,h.lt⟩
theorem Ext.drew(G:bZ)(s:St)(w:World):Ext G s w G s w.drew:={Ext.refl G s w with keep:=λ_ _ _=>rfl,size:=eu _,drawn:=Nat.le_succ _}
def bZ.gG(G:bZ)(b:Nat)(cs:Array Value):bZ:={gD:=λb' o=>if b'=b then cs[o]? else G.gD b' o,own:=G.own}
theorem rC.gG{G:bZ}{b:Nat}{cs:Array Value}(h: ∀o v,G.gD b o=some v->cs[o]? =some v):rC G (G.gG b cs):=
 ⟨λb' o v hi=>by
  simp only[bZ.gG]
  split
  ·subst_vars;exact h o v hi
  ·exact hi,λ_ _ h=>h⟩
theorem eA.QX{G:bZ}{s:St}{w:World}(h:eA G s w)(cs:Array Value)(t:TypeId):
  eA (G.gG w.heap.size cs) s (w.alloc (.cells cs t))/\Ext G s w (G.gG w.heap.size cs) s (w.alloc (.cells cs t)):=by
 have hn: ∀o v,G.gD w.heap.size o=some v->cs[o]? =some v:=λo v hi=>by have:=h.rR hi;omega
 have ep:rC G (G.gG w.heap.size cs):=.gG hn
 refine⟨⟨?_,?_,?_,?_,?_,h.lt⟩,⟨ep,rfl,rfl,rfl,by simp,?_,?_,?_,?_,eu _,λ_ h=>h,λ_ _ h=>h,eu _⟩⟩
 ·intro b o v hi
  simp only[bZ.gG]at hi
  split at hi
  ·subst_vars;rw[World.cell?_alloc_new];exact hi
  ·have hb:=h.rR hi
   rw[uB hb];exact h.gD b o v hi
 ·intro id b hg
  rcases h.heap id b hg with⟨r',o',e1,e2,e3⟩|e
  ·have gh:=h.iY hg e1
   exact .inl ⟨r',o',e1,by rw[Below.heap_alloc _ _ _ gh];exact e2,e3.mono ep⟩
  ·exact .inr e
 ·exact h.apart
 ·intro id b r o hg ho
  have gh:=h.iY hg ho
  simp only[bZ.gG]
  split
  ·omega
  ·exact h.clear id b r o hg ho
 ·exact h.cq
 ·intro b hb _;exact Below.heap_alloc _ _ _ hb
 ·intro b o v hi
  simp only[bZ.gG]at hi
  split at hi
  ·exact .inr (.inl (by omega))
  ·exact .inl hi
 ·intro id r hi;exact .inl hi
 ·intro id b hg;exact .inl ⟨b,hg⟩
theorem eA.freeze{G:bZ}{s:St}{w:World}(h:eA G s w){id cz:Nat}{elems:List AV}{r:ux}{cs:Array Value}{e:TypeId}(hg:bH s.heap id=some (.cells cz elems))
  (ho:G.own id=some r) (hw:w.heap[r.block]? =some (.cells cs e (0,0))):
  eA (G.gG r.block cs) ⟨eh s.heap id,s.bS⟩ w/\Ext G s w (G.gG r.block cs) ⟨eh s.heap id,s.bS⟩ w:=by
 have ep:rC G (G.gG r.block cs):=.gG λo v hi=>by rw[h.clear id _ r o hg ho]at hi;cases hi
 have gd: ∀i b,bH (eh s.heap id) i=some b->i≠id/\bH s.heap i=some b:=λi b hi=>by
  rw[fw]at hi
  split at hi
  ·cases hi
  ·exact⟨by omega,hi⟩
 refine⟨⟨?_,?_,?_,?_,?_,λi b hi=>h.lt i b (gd i b hi).2⟩,⟨ep,rfl,rfl,rfl,eu _,λ_ _ _=>rfl,?_,?_,?_,eu _,λi hi=>by rw[fw,if_neg (λe=>by subst e;rw[hg]at hi;cases hi)];exact hi,λ_ _ h=>h,eu _⟩⟩
 ·intro b o v hi
  simp only[bZ.gG]at hi
  split at hi
  ·subst_vars;simp[World.cell?,hw,hi]
  ·exact h.gD b o v hi
 ·intro i b hi
  rcases h.heap i b (gd i b hi).2 with⟨r',o',e1,e2,e3⟩|e
  ·exact .inl ⟨r',o',e1,e2,e3.mono ep⟩
  ·exact .inr e
 ·intro i i' b b' r1 r2 h1 h2;exact h.apart i i' b b' r1 r2 (gd _ _ h1).2 (gd _ _ h2).2
 ·intro i b r1 o hi Ix
  simp only[bZ.gG]
  split
  ·rename_i hb
   exact absurd hb (h.apart i id b _ r1 r (gd i b hi).2 hg Ix ho (gd i b hi).1)
  ·exact h.clear i b r1 o (gd i b hi).2 Ix
 ·exact h.cq
 ·intro b o v hi
  simp only[bZ.gG]at hi
  split at hi
  ·exact .inr (.inr ⟨id,_,r,hg,ho,by omega⟩)
  ·exact .inl hi
 ·intro i r' hi;exact .inl hi
 ·intro i b hi;exact .inl ⟨b,(gd i b hi).2⟩
theorem eA.turn{G:bZ}{s:St}{w w':World}(h:eA G s w){id:Nat}{blk rQ:gp}{r:ux}{o:Obj}(hg:bH s.heap id=some blk)(ho:G.own id=some r)
  (hs:w'.heap.size=w.heap.size) (Ym:w'.os=w.os) (ht:w'.tape=w.tape) (re:w'.output=w.output)
  (hk: ∀b,b≠r.block->w'.heap[b]? =w.heap[b]?) (hw:w'.heap[r.block]? =some o) (hh:Holds G r rQ o) (rB:blk≠ .gb) (NA:w.drawn<=w'.drawn:=by exact eu _):
  eA G ⟨dT s.heap id rQ,s.bS⟩ w'/\Ext G s w G ⟨dT s.heap id rQ,s.bS⟩ w':=by
 have gs: ∀i b,bH (dT s.heap id rQ) i=some b->(i=id/\b=rQ)\/(i≠id/\bH s.heap i=some b):=λi b hi=>by
  rw[eC]at hi
  split at hi
  ·cases hi;exact .inl ⟨by omega,rfl⟩
  ·exact .inr ⟨by omega,hi⟩
 have NB: ∀i b,bH (dT s.heap id rQ) i=some b-> ∃b0,bH s.heap i=some b0:=λi b hi=>by
  rcases gs i b hi with⟨rfl,_⟩|⟨_,hb⟩
  ·exact⟨_,hg⟩
  ·exact⟨_,hb⟩
 refine⟨⟨?_,?_,?_,?_,?_,λi b hi=>let⟨b0,CU⟩:=NB i b hi;h.lt i b0 CU⟩,⟨.refl G,Ym,ht,re,by omega,?_,?_,?_,?_,eu _,λi hi=>by rw[eC,if_neg (λe=>by subst e;rw[hg]at hi;cases hi;exact rB rfl)];exact hi,λ_ _ h=>h,NA⟩⟩
 ·intro b i v hi
  have eJ:b≠r.block:=λe=>by subst e;rw[h.clear id _ r i hg ho]at hi;cases hi
  have:=h.gD b i v hi
  rwa[World.cell?_of_block (w:=w) (hk b eJ)]
 ·intro i b hi
  rcases gs i b hi with⟨rfl,rfl⟩|⟨eJ,hb⟩
  ·exact .inl ⟨r,o,ho,hw,hh⟩
  ·rcases h.heap i b hb with⟨r',o',e1,e2,e3⟩|e
   ·exact .inl ⟨r',o',e1,by rw[hk _ (h.apart i id b _ r' r hb hg e1 ho eJ)];exact e2,e3⟩
   ·exact .inr e
 ·intro i i' b b' r1 r2 h1 h2 o1 o2 eJ
  obtain⟨b1,g1⟩:=NB i b h1
  obtain⟨b2,g2⟩:=NB i' b' h2
  exact h.apart i i' b1 b2 r1 r2 g1 g2 o1 o2 eJ
 ·intro i b r1 j hi Ix
  obtain⟨b1,g1⟩:=NB i b hi
  exact h.clear i b1 r1 j g1 Ix
 ·exact h.cq
 ·intro b hb hn
  exact hk b λe=>hn ⟨id,blk,r,hg,ho,e.symm⟩
 ·intro b o v hi;exact .inl hi
 ·intro i r' hi;exact .inl hi
 ·intro i b hi;exact .inl (NB i b hi)
theorem Kc:di []=[]:=rfl
theorem iV(x:AV)(l:List AV):di (x::l)=x.cells++di l:=by simp[di]
theorem dx(a b:List AV):di (a++b)=di a++di b:=by simp[di]
theorem dy{cz:Nat}{l:List AV}(h: ∀e∈l,e.cells.length=cz):(di l).length=l.length*cz:=by
 induction l with
 |nil=>simp[di]
 |cons x r ih=>
  rw[iV,kc,h x (by simp),ih λe he=>h e (by simp[he]),oc,uw]
  omega
theorem og{cz:Nat}{l:List AV}(h: ∀e∈l,e.cells.length=cz){i:Nat}{e:AV}(he:l[i]? =some e)(j:Nat)(x:AV)(hx:e.cells[j]? =some x):
  (di l)[i*cz+j]? =some x:=by
 induction l generalizing i with
 |nil=>simp at he
 |cons y r ih=>
  rw[iV]
  cases i with
  |zero=>
   simp at he
   subst he
   have:j<y.cells.length:=(fM.1 hx).1
   rw[T7,Ba,nq this];exact hx
  |succ i=>
   have hy:=h y (by simp)
   rw[pn (by rw[hy,uw];omega),hy]
   have:=ih (λe he=>h e (by simp[he])) (i:=i) (by simpa using he)
   rw[show(i+1)*cz+j-cz=i*cz+j from by rw[uw];omega]
   exact this
theorem xa{cz:Nat}{l:List AV}(h: ∀e∈l,e.cells.length=cz)(h0:0<cz){k:Nat}{x:AV}(hx:(di l)[k]? =some x):
  ∃e,l[k / cz]? =some e/\e.cells[k%cz]? =some x:=by
 have hk:k<l.length*cz:=by rw[<-dy h];exact(fM.1 hx).1
 have hd:k / cz<l.length:=Nat.div_lt_of_lt_mul (by rw[QO];exact hk)
 have he:l[k / cz]? =some l[k / cz]:=dC hd
 have hm:k%cz<(l[k / cz]).cells.length:=by rw[h _ (zo hd)];exact Nat.mod_lt _ h0
 have h2:=og h he (k%cz) _ (dC hm)
 rw[QO,WD]at h2
 rw[hx]at h2
 exact⟨_,he,by rw[dC hm,h2]⟩
theorem VL.cells{G:bZ}{x:AV}{v:Value}(h:V G x v)(hx:x≠ .any):VL G x.cells v.cells:=by
 have one: ∀{x:AV}{v:Value},V G x v->x.cells=[x]->v.cells= #[v]->VL G x.cells v.cells:=λ{x v}h hx hv=>by
  rw[hx,hv]
  refine⟨rfl,λi a b ha hb=>?_⟩
  cases i with
  |zero=>simp at ha hb;subst ha;subst hb;exact h
  |succ i=>simp at ha
 cases h with
 |any=>exact absurd rfl hx
 |agg cs vs dt h=>exact⟨dt,h⟩
 |bool b=>exact one (.bool b) rfl rfl
 |int k n=>exact one (.int k n) rfl rfl
 |str s=>exact one (.str s) rfl rfl
 |ij=>exact one .ij rfl rfl
 |mD=>exact one .mD rfl rfl
 |slnil full bQ cap hf hb=>exact one (.slnil full bQ cap hf hb) rfl rfl
 |sl full elems b off cz cap val jG jB dS jg gF hV=>exact one (.sl full elems b off cz cap val jG jB dS jg gF hV) rfl rfl
 |ip cells b off val gF hV=>exact one (.ip cells b off val gF hV) rfl rfl
 |mp id el off r h=>exact one (.mp id el off r h) rfl rfl
 |ms id bL len cap r addr h ep eP ha=>exact one (.ms id bL len cap r addr h ep eP ha) rfl rfl
 |gn id bL cap bQ hc=>exact one (.gn id bL cap bQ hc) rfl rfl
 |mc id bL len cap r addr h ep eP ha=>exact one (.mc id bL len cap r addr h ep eP ha) rfl rfl
 |mH id bL bQ=>exact one (.mH id bL bQ) rfl rfl
 |fn f fH vs dt h=>exact one (.fn f fH vs dt h) rfl rfl
 |kt id r h=>exact one (.kt id r h) rfl rfl
 |dW cs vs dt h=>exact one (.dW cs vs dt h) rfl rfl
theorem VL.get{G:bZ}{cs:List AV}{vs:Array Value}(h:VL G cs vs){k:Nat}{x:AV}(hx:cs[k]? =some x): ∃v,vs[k]? =some v/\V G x v:=by
 have hk:k<vs.size:=by rw[<-h.1];exact(fM.1 hx).1
 exact⟨vs[k],JP hk,h.2 k x _ hx (JP hk)⟩
end Go.Am
end
section
namespace Go.Am
open Go.RowKit
def xb:Value->Option AV
 |.bool b=>some (.bool b)
 |.int k n=>some (.int k n)
 |.string s=>some (.str s)
 |.pointer none=>some .ij
 |.nilFunc=>some .mD
 |.slice none 0 0=>some (.sl true [])
 |_=>none
def sV:List Value->Option (List AV)
 | []=>some []
 |v::r=>match xb v,sV r with
  |some x,some l=>some (x::l)
  |_,_=>none
def ofValue:Value->Option AV
 |.agg cs=>match sV cs.toList with
  |some l=>some (.agg l)
  |none=>none
 |v=>xb v
def dl(P:Program)(t:TypeId):Option Nat:=(P.info? t).map (·.size)
def oh(P:Program)(t:TypeId):Option Nat:=(P.info? t).map (·.bytes)
def Kd(P:Program)(t:TypeId):Option Bool:=(P.underlying t).map λ|.struct _|.array _ _=>true|_=>false
def ji(P:Program)(t:TypeId):Option AV:=match(P.info? t).map (·.zero)with
 |some (some v)=>ofValue v
 |_=>none
def dU(P:Program)(t:TypeId):Option TypeId:=match P.underlying t with
 |some (.slice e)=>some e
 |_=>none
def vU(P:Program)(t:TypeId):Option (Nat×TypeId):=match P.underlying t with
 |some (.array n e)=>some (n,e)
 |_=>none
def Uk(P:Program)(t:TypeId):Bool:=match vU P t with
 |some (m,_)=>Nat.blt 8 m
 |none=>false
def vr(P:Program)(t:TypeId):Option AV:=bif Uk P t then none else ji P t
theorem Be{P:Program}{t:TypeId}{z:AV}(h:vr P t=some z):ji P t=some z:=by
 unfold vr at h
 cases hb:Uk P t<;>rw[hb]at h
 ·exact h
 ·cases h
def vV(P:Program)(t:TypeId):Bool:=match P.underlying t with
 |some .string=>true
 |_=>false
def E8(P:Program)(t:TypeId):Option IntKind:=match P.underlying t with
 |some (.int k)=>some k
 |_=>none
def mU(P:Program)(t:TypeId)(i:Nat):Option (Nat×Nat):=match P.underlying t with
 |some (.struct fs)=>match fs[i]? with
  |some f=>match dl P f.type with
   |some n=>some (f.offset,n)
   |none=>none
  |none=>none
 |_=>none
def wA(P:Program)(t:TypeId):Bool:=match P.underlying t with
 |some (.struct fs)=>fs.toList.all λf=>(dl P f.type).isSome
 |_=>false
def Bf(P:Program)(t:TypeId)(i:Nat):Option TypeId:=match P.underlying t with
 |some (.struct fs)=>(fs[i]?).map (·.type)
 |_=>none
def oper(bI:Env):Operand->Option AV
 |.tmp t=>bH bI t
 |.const v=>ofValue v
 |.func f=>some (.fn f [])
 |.global _=>none
def opers(bI:Env):List Operand->Option (List AV)
 | []=>some []
 |x::r=>match oper bI x,opers bI r with
  |some v,some l=>some (v::l)
  |_,_=>none
def mI(s:St):AV->Option (List AV)
 |.mp id el off=>match bH s.heap id with
  |some (.cells _ elems)=>match elems[el]? with
   |some e=>some (e.cells.drop off)
   |none=>none
  |_=>none
 |.ip cells=>some cells
 |_=>none
def pE(P:Program)(t:TypeId)(cs:List AV):Option AV:=
 match Kd P t with
 |some true=>match dl P t with
  |some n=>if n<=cs.length then some (.agg (cs.take n))else none
  |none=>none
 |some false=>match cs with
  |x::_=>some x
  | []=>none
 |none=>none
def oX(P:Program)(t:TypeId)(p:AV)(s:St):Option AV:=
 match mI s p with
 |some cs=>pE P t cs
 |none=>none
def jj(cs:List AV)(off:Nat)(new:List AV):List AV:=cs.take off++(new++cs.drop (off+new.length))
def pF(e:AV)(cs:List AV):AV:=match e with
 |.agg _=>.agg cs
 |_=>match cs with
  |x::_=>x
  | []=>.any
def xc(P:Program)(t:TypeId)(p v:AV)(s:St):Option St:=
 match p with
 |.mp id el off=>match bH s.heap id with
  |some (.cells cz elems)=>match elems[el]? with
   |some e=>if dl P t=some v.cells.length/\off+v.cells.length<=e.cells.length/\v.cells.all AV.cS=true then
     some ⟨dT s.heap id (.cells cz (elems.set el (pF e (jj e.cells off v.cells)))),s.bS⟩
    else none
   |none=>none
  |_=>none
 |_=>none
def Bg(v:AV)(s:St):Option (AV×St):=
 if 0<v.cells.length/\v.cells.all AV.cS=true then some (.mp s.bS 0 0,⟨(s.bS,.cells v.cells.length [v])::s.heap,s.bS+1⟩)else none
def CV(v:AV)(s:St):Option (AV×St):=
 if 0<v.cells.length/\v.cells.all AV.cS=true then some (.mp s.bS 0 0,⟨(s.bS,.cells 1 v.cells)::s.heap,s.bS+1⟩)else none
def xd(P:Program)(t:TypeId)(p:AV)(i:Nat):Option AV:=
 match mU P t i with
 |some (off,n)=>if n=0 then none else match p with
  |.mp id el o=>some (.mp id el (o+off))
  |.ip cells=>some (.ip (cells.drop off))
  |_=>none
 |none=>none
def Ke(P:Program)(t:TypeId)(x:AV)(off:Nat):Option AV:=match x with
 |.agg cs=>pE P t (cs.drop off)
 |_=>none
def sW(P:Program)(t:TypeId)(x:AV)(i:Nat):Option AV:=
 match mU P t i,Bf P t i with
 |some (off,_),some ft=>Ke P ft x off
 |_,_=>none
def eM(P:Program)(t:TypeId)(x:AV)(i:AV)(s:St):Option AV:=
 match i with
 |.int _ n=>match dU P t with
  |some e=>match x with
   |.sl _ elems=>if 0<=n then match elems[n.toNat]? with
     |some y=>if dl P e=some y.cells.length then some (.ip y.cells)else none
     |none=>none
    else none
   |.ms id bL len=>match bH s.heap id with
    |some (.cells cz _)=>if 0<=n/\n<len/\dl P e=some cz then some (.mp id (bL+n.toNat) 0)else none
    |_=>none
   |_=>none
  |none=>match vU P t with
   |some (m,e)=>match dl P e with
    |some sz=>if 0<=n/\n<m then match x with
      |.mp id el off=>bif Nat.blt 8 m then(match bH s.heap id with
       |some (.cells cz _)=>if cz=sz/\off=0 then some (.mp id (el+n.toNat) 0)else none
       |_=>none)else some (.mp id el (off+n.toNat*sz))
      |.ip cells=>some (.ip (cells.drop (n.toNat*sz)))
      |_=>none
     else none
    |none=>none
   |none=>none
 |_=>none
def rS(P:Program)(t:TypeId)(x:AV)(i:AV):Option AV:=
 match i with
 |.int _ n=>match x with
  |.str b=>if vV P t=true/\0<=n then match b[n.toNat]? with
    |some c=>some (.int .u8 c.toNat)
    |none=>none
   else none
  |.agg cs=>match vU P t with
   |some (m,e)=>match dl P e with
    |some sz=>if 0<=n/\n<m then pE P e (cs.drop (n.toNat*sz))else none
    |none=>none
   |none=>none
  |_=>none
 |_=>none
def fZ(bI:Env)(x:Option Operand)(d:Nat):Option Nat:=match x with
 |none=>some d
 |some o=>match oper bI o with
  |some (.int _ n)=>if 0<=n then some n.toNat else none
  |_=>none
def oi(P:Program)(t:TypeId)(x:AV)(bI:Env)(lo hi mx:Option Operand)(s:St):Option AV:=
 match x with
 |.str b=>if vV P t=true/\mx.isNone=true then match fZ bI lo 0,fZ bI hi b.size with
   |some l,some h=>if l<=h/\h<=b.size then some (.str (b.extract l h))else none
   |_,_=>none
  else none
 |.sl full elems=>match dU P t with
  |some e=>match fZ bI lo 0,fZ bI hi elems.length,mx with
   |some l,some h,none=>if l<=h/\h<=elems.length/\(∀y∈elems.head?,dl P e=some y.cells.length)/\(dl P e).isSome=true then
     some (.sl (full&&h==elems.length) ((elems.take h).drop l))else none
   |some l,some h,some m=>match fZ bI (some m) 0 with
    |some m=>if l<=h/\h<=m/\m<=elems.length/\hi.isSome=true/\(∀y∈elems.head?,dl P e=some y.cells.length)/\(dl P e).isSome=true then
      some (.sl (m==h) ((elems.take h).drop l))else none
    |none=>none
   |_,_,_=>none
  |none=>none
 |.ms id bL len=>match dU P t with
  |some e=>match bH s.heap id with
   |some (.cells cz _)=>match fZ bI lo 0,fZ bI hi len,mx with
    |some l,some h,none=>if l<=h/\h<=len/\dl P e=some cz then some (.ms id (bL+l) (h-l))else none
    |some l,some h,some m=>match fZ bI (some m) 0 with
     |some m=>if l<=h/\h<=m/\m<=len/\hi.isSome=true/\dl P e=some cz then some (.ms id (bL+l) (h-l))else none
     |none=>none
    |_,_,_=>none
   |_=>none
  |none=>none
 |.mc id bL len cap=>match dU P t with
  |some e=>match bH s.heap id with
   |some (.cells cz _)=>match fZ bI lo 0,fZ bI hi len,mx with
    |some l,some h,none=>if l<=h/\h<=cap/\dl P e=some cz then some (.mc id (bL+l) (h-l) (cap-l))else none
    |_,_,_=>none
   |_=>none
  |none=>none
 |_=>none
def fG(x:AV)(s:St):Option (List AV):=match x with
 |.sl _ elems=>some elems
 |.ms id bL len=>match bH s.heap id with
  |some (.cells _ elems)=>if bL+len<=elems.length then some ((elems.drop bL).take len)else none
  |_=>none
 |_=>none
def fits(P:Program)(e:TypeId)(l:List AV):Prop:= ∀y∈l.head?,dl P e=some y.cells.length
instance (P:Program) (e:TypeId) (l:List AV):Decidable (fits P e l):=by unfold fits;exact inferInstance
def kE(P:Program)(e:TypeId)(x:AV)(s:St):Prop:=match x with
 |.sl _ elems=>fits P e elems
 |.ms id _ _=>match bH s.heap id with
  |some (.cells cz _)=>dl P e=some cz
  |_=>False
 |_=>False
instance (P:Program) (e:TypeId) (x:AV) (s:St):Decidable (kE P e x s):=by
 unfold kE;split
 ·exact inferInstance
 ·split<;>exact inferInstance
 ·exact inferInstance
def bJ:Nat:=4294967296
def uC(P:Program)(e:TypeId)(sz:Nat):Bool:=match ji P e with
 |some z=>z.cells.length==sz&&z.cells.all AV.cS
 |none=>false
def fO(P:Program)(t:TypeId)(x:AV)(new:List AV)(s:St):Option (AV×St):=
 match dU P t with
 |some e=>match dl P e,oh P e with
  |some sz,some E9=>if 0<sz/\E9<=4096/\uC P e sz=true then
    match x with
    |.sl full elems=>if new=[]then some (.sl full elems,s)else
     if full=true/\elems.length+new.length<=bJ/\fits P e elems then
      some (.ms s.bS 0 (elems.length+new.length),⟨(s.bS,.cells sz (elems++new))::s.heap,s.bS+1⟩)else none
    |.ms id bL len=>if new=[]then some (.ms id bL len,s)else
     match bH s.heap id with
     |some (.cells cz elems)=>if cz=sz/\bL+len<=elems.length/\len+new.length<=bJ then
       some (.ms s.bS 0 (len+new.length),⟨(s.bS,.cells sz ((elems.drop bL).take len++new))::eh s.heap id,s.bS+1⟩)else none
     |_=>none
    |.mc id bL len cap=>match bH s.heap id with
     |some (.cells cz elems)=>if new≠[]/\cz=sz/\bL+len<=elems.length/\cap<len+new.length/\len+new.length<=bJ then
       some (.ms s.bS 0 (len+new.length),⟨(s.bS,.cells sz ((elems.drop bL).take len++new))::s.heap,s.bS+1⟩)else none
     |_=>none
    |_=>none
   else none
  |_,_=>none
 |none=>none
def w6(P:Program)(t:TypeId)(x:AV)(new:List AV)(s:St):Option (AV×St):=
 match dU P t with
 |some e=>match x with
  |.ms id bL len=>match bH s.heap id with
   |some (.cells cz elems)=>if dl P e=some cz/\bL+len<=elems.length then
    let n:=min new.length len
    some (.int .i64 n,⟨dT s.heap id (.cells cz (elems.take bL++(new.take n++elems.drop (bL+n)))),s.bS⟩)else none
   |_=>none
  |.mc id bL len _=>match bH s.heap id with
   |some (.cells cz elems)=>if dl P e=some cz/\bL<=elems.length then
    let n:=min new.length len
    some (.int .i64 n,⟨dT s.heap id (.cells cz (elems.take bL++(new.take n++elems.drop (bL+n)))),s.bS⟩)else none
   |_=>none
  |.sl _ elems=>if min new.length elems.length=0/\(dl P e).isSome=true then some (.int .i64 0,s)else none
  |_=>none
 |none=>none
def Ul:AV->Option Nat
 |.sl _ l=>some l.length
 |.ms _ _ n=>some n
 |.mc _ _ n _=>some n
 |_=>none
def A0(P:Program)(t:TypeId)(x:AV)(id bL len:Nat)(s:St):Option (AV×St):=
 match dU P t,bH s.heap id,Ul x with
 |some e,some (.cells cz elems),some n=>if dl P e=some cz/\bL+min len n<=elems.length then w6 P t x ((elems.drop bL).take (min len n)) s else none
 |_,_,_=>none
def QY(P:Program)(t:TypeId)(x:AV):Option AV:=match x with
 |.mc _ _ _ cap=>if(dU P t).isSome=true then some (.int .i64 cap)else none
 |.sl true elems=>if(dU P t).isSome=true then some (.int .i64 elems.length)else none
 |_=>none
def Fa(P:Program)(t:TypeId)(x:AV)(s:St):Option (AV×St):=match dU P t,x with
 |some e,.ms id bL len=>match bH s.heap id,ji P e with
  |some (.cells cz elems),some z=>if dl P e=some cz/\z.cells.length=cz/\z.cells.all AV.cS=true/\bL+len<=elems.length then
   some (.dW [],⟨dT s.heap id (.cells cz (elems.take bL++(List.replicate len z++elems.drop (bL+len)))),s.bS⟩)else none
  |_,_=>none
 |_,_=>none
def zq(P:Program)(t:TypeId)(x:AV):Option AV:=match x with
 |.mc _ _ len _=>if(dU P t).isSome=true then some (.int .i64 len)else none
 |.sl _ elems=>if(dU P t).isSome=true then some (.int .i64 elems.length)else none
 |.ms _ _ len=>if(dU P t).isSome=true then some (.int .i64 len)else none
 |.str b=>if vV P t=true then some (.int .i64 b.size)else none
 |_=>match vU P t with
  |some (n,_)=>some (.int .i64 n)
  |none=>none
def CW(P:Program)(t:TypeId)(l c:AV)(s:St):Option (AV×St):=
 match l,c,dU P t with
 |.int _ n,.int _ m,some e=>match dl P e,oh P e,ji P e with
  |some sz,some E9,some z=>if 0<=n/\n<=m/\m<=bJ/\0<sz/\z.cells.length=sz/\z.cells.all AV.cS=true/\E9<=4096 then
   some (.ms s.bS 0 n.toNat,⟨(s.bS,.cells sz (List.replicate n.toNat z))::s.heap,s.bS+1⟩)else none
  |_,_,_=>none
 |_,_,_=>none
def xe(op:BinOp)(k:IntKind)(x y:Int):Option AV:=match op with
 |.add=>some (.int k (k.wrap (x+y)))
 |.sub=>some (.int k (k.wrap (x-y)))
 |.mul=>some (.int k (k.wrap (x*y)))
 |.quo=>if y=0 then none else some (.int k (k.wrap (x.tdiv y)))
 |.rem=>if y=0 then none else some (.int k (x.tmod y))
 |.eql=>some (.bool (decide (x=y)))
 |.neq=>some (.bool (decide (x≠y)))
 |.lss=>some (.bool (decide (x<y)))
 |.leq=>some (.bool (decide (x<=y)))
 |.gtr=>some (.bool (decide (y<x)))
 |.geq=>some (.bool (decide (y<=x)))
 |.shl=>if y<0 then none else some (.int k (k.wrap (x*2^(min y.toNat k.bits))))
 |.shr=>if y<0 then none else some (.int k (x.fdiv (2^(min y.toNat k.bits))))
 |.and|.or|.xor|.andNot=>none
def qp(P:Program)(eq:TypeId->AV->AV->Option Bool)(xs ys:List AV):List Field->Option Bool
 | []=>some true
 | f :: fs => if f.name = "_" then none else
  match pE P f.type (xs.drop f.offset),pE P f.type (ys.drop f.offset)with
  |some a,some b=>match eq f.type a b,qp P eq xs ys fs with
   |some r,some r'=>some (r&&r')
   |_,_=>none
  |_,_=>none
def NC(P:Program):Nat->TypeId->AV->AV->Option Bool
 |0,_,_,_=>none
 |d+1,t,x,y=>
  match P.underlying t,x,y with
  |some .bool,.bool a,.bool b=>some (a==b)
  |some (.int _),.int k a,.int k' b=>if k=k' then some (decide (a=b))else none
  |some .string,.str a,.str b=>some (a.toList==b.toList)
  |some (.pointer _),.ij,.ij=>some true
  |some (.pointer _),.ij,.mp _ _ _=>some false
  |some (.pointer _),.mp _ _ _,.ij=>some false
  |some (.func _ _ _),.mD,.mD=>some true
  |some (.func _ _ _),.mD,.fn _ _=>some false
  |some (.func _ _ _),.fn _ _,.mD=>some false
  |some (.struct fs),.agg xs,.agg ys=>if P.stoodInHeld t=true then none else qp P (NC P d) xs ys fs.toList
  |_,_,_=>none
def Fb(P:Program)(op:BinOp)(t:TypeId)(x y:AV):Option AV:=
 match x,y with
 |.int k a,.int k' b=>match op with
  |.shl|.shr=>xe op k a b
  |_=>if k=k' then xe op k a b else none
 |.str a,.str b=>match op with
  |.add=>if a.size+b.size<=maxLen then some (.str (a++b))else none
  |.eql=>some (.bool (a.toList==b.toList))
  |.neq=>some (.bool !(a.toList==b.toList))
  |.lss=>some (.bool (Op.bytesLess a.toList b.toList))
  |.geq=>some (.bool !(Op.bytesLess a.toList b.toList))
  |.leq=>some (.bool (Op.bytesLess a.toList b.toList||a.toList==b.toList))
  |.gtr=>some (.bool !(Op.bytesLess a.toList b.toList||a.toList==b.toList))
  |_=>none
 |x,y=>if P.eqGuardType P.depth t=true then none else match op with
  |.eql=>match NC P 8 t x y with
   |some b=>some (.bool b)
   |none=>none
  |.neq=>match NC P 8 t x y with
   |some b=>some (.bool !b)
   |none=>none
  |_=>none
def Yn(op:UnOp)(x:AV):Option AV:=match op,x with
 |.not,.bool b=>some (.bool !b)
 |.neg,.int k n=>some (.int k (k.wrap (0-n)))
 |_,_=>none
def nw(P:Program)(src dst:TypeId)(x:AV):Option AV:=match x with
 |.int _ n=>if(P.underlying src).isSome=true then match E8 P dst with
   |some k=>some (.int k (k.wrap n))
   |none=>none
  else none
 |.str b=>if(P.underlying src).isSome=true/\vV P dst=true then some (.str b)else none
 |_=>none
def rD(bP:Nat->Option (Nat×Nat))(cells:List AV):List (Nat×AV)->Option (List AV)
 | []=>some cells
 |(i,v)::r=>match bP i with
  |some (off,n)=>if v.cells.length=n/\v.cells.all AV.cS=true/\off+n<=cells.length then rD bP (jj cells off v.cells) r else none
  |none=>none
def lC(bI:Env):List (Nat×Operand)->Option (List (Nat×AV))
 | []=>some []
 |(i,x)::r=>match oper bI x,lC bI r with
  |some v,some l=>some ((i,v)::l)
  |_,_=>none
def xf(P:Program)(t:TypeId)(cu:List (Nat×AV)):Option AV:=
 match ji P t with
 |some (.agg cs)=>if wA P t=true then match rD (mU P t) cs cu with
   |some l=>some (.agg l)
   |none=>none
  else match vU P t with
  |some (_,e)=>match dl P e with
   |some sz=>match rD (λi=>some (i*sz,sz)) cs cu with
    |some l=>some (.agg l)
    |none=>none
   |none=>none
  |none=>none
 |_=>none
def ny(l:List (Nat×AV))(i:Nat):Bool:=match l with
 | []=>true
 |(j,_)::r=>j==i&&ny r (i+1)
def fR(P:Program)(t:TypeId)(len:Nat)(cu:List (Nat×AV)):Option AV:=
 match dU P t with
 |some e=>match dl P e,ji P e with
  |some sz,some z=>if cu.length=len/\ny cu 0=true/\(∀p∈cu,p.2.cells.length=sz/\p.2.cells.all AV.cS=true)/\len*sz<=16777216/\0<sz/\z.cells.length=sz then
   some (.sl true (cu.map (·.2)))else none
  |_,_=>none
 |none=>none
def NY:AV->AV->Option AV
 |.int k x,.int k' y=>if k=k' then some (.int k (if y<x then y else x))else none
 |_,_=>none
def NZ:AV->AV->Option AV
 |.int k x,.int k' y=>if k=k' then some (.int k (if x<y then y else x))else none
 |_,_=>none
def vt(f:AV->AV->Option AV):AV->List AV->Option AV
 |x,[]=>some x
 |x,y::r=>match f x y with
  |some z=>vt f z r
  |none=>none
def gg(v:Option AV)(s:St):Option (AV×St):=match v with
 |some v=>some (v,s)
 |none=>none
def iL(P:Program)(op:Op)(bI:Env)(s:St):Option (AV×St):=
 match op with
 |.move x|.assign x=>gg (oper bI x) s
 |.pick c a b=>match oper bI c with
  |some (.bool t)=>if t then gg (oper bI a) s else gg (oper bI b) s
  |_=>none
 |.alloc t=>match vr P t with
  |some z=>Bg z s
  |none=>match ji P t with
   |some z=>CV z s
   |none=>none
 |.box _ x=>match oper bI x with
  |some v=>Bg v s
  |none=>none
 |.build t cu=>match lC bI cu.toList with
  |some l=>gg (xf P t l) s
  |none=>none
 |.buildSlice t len cu=>match lC bI cu.toList with
  |some l=>gg (fR P t len l) s
  |none=>none
 |.load t p=>match oper bI p with
  |some p=>gg (oX P t p s) s
  |none=>none
 |.store t p x=>match oper bI p,oper bI x with
  |some p,some x=>match xc P t p x s with
   |some s'=>some (.any,s')
   |none=>none
  |_,_=>none
 |.nilCheck x=>match oper bI x with
  |some (.mp id el off)=>some (.mp id el off,s)
  |some (.ip cells)=>some (.ip cells,s)
  |some (.fn f fH)=>some (.fn f fH,s)
  |_=>none
 |.binOp op t x y _=>match oper bI x,oper bI y with
  |some x,some y=>gg (Fb P op t x y) s
  |_,_=>none
 |.unOp op _ x=>match oper bI x with
  |some x=>gg (Yn op x) s
  |none=>none
 |.convert src dst x=>match oper bI x with
  |some x=>gg (nw P src dst x) s
  |none=>none
 |.makeFunc (.func f) first fH=>if first.size=0 then match opers bI fH.toList with
   |some l=>some (.fn f l,s)
   |none=>none
  else none
 |.slice t x lo hi mx=>match oper bI x with
  |some x=>gg (oi P t x bI lo hi mx s) s
  |none=>none
 |.fieldAddr t x i=>match oper bI x with
  |some x=>gg (xd P t x i) s
  |none=>none
 |.field t x i=>match oper bI x with
  |some x=>gg (sW P t x i) s
  |none=>none
 |.indexAddr t x i=>match oper bI x,oper bI i with
  |some x,some i=>gg (eM P t x i s) s
  |_,_=>none
 |.index t x i=>match oper bI x,oper bI i with
  |some x,some i=>gg (rS P t x i) s
  |_,_=>none
 |.extract x i=>match oper bI x with
  |some (.dW vs)=>gg vs[i]? s
  |_=>none
 |.makeSlice t l c=>match oper bI l,oper bI c with
  |some l,some c=>CW P t l c s
  |_,_=>none
 |.call c=>match c.callee with
  |.builtin .len=>match opers bI c.args.toList,c.argTypes[0]? with
   |some [x],some t=>gg (zq P t x) s
   |_,_=>none
  |.builtin .append=>match opers bI c.args.toList,c.argTypes[0]?,c.argTypes[1]? with
   |some [x,y],some t,some u=>match y with
    |.int _ n=>match dU P t with
     |some e=>match ji P e with
      |some z=>if 0<=n/\n<=bJ/\(E8 P u).isSome=true/\dl P e=some z.cells.length/\z.cells.all AV.cS=true then fO P t x (List.replicate n.toNat z) s else none
      |none=>none
     |none=>none
    |y=>match dU P t,fG y s with
     |some e,some new=>if kE P e y s/\(dU P u).isSome=true then fO P t x new s else none
     |_,_=>none
   |_,_,_=>none
  |.builtin .copy=>match opers bI c.args.toList,c.argTypes[0]? with
   |some [x,y],some t=>match y with
    |.mc id bL len _=>A0 P t x id bL len s
    |y=>match dU P t,fG y s with
     |some e,some new=>if kE P e y s then w6 P t x new s else none
     |_,_=>none
   |_,_=>none
  |.builtin .cap=>match opers bI c.args.toList,c.argTypes[0]? with
   |some [x],some t=>gg (QY P t x) s
   |_,_=>none
  |.builtin .clear=>match opers bI c.args.toList,c.argTypes[0]? with
   |some [x],some t=>Fa P t x s
   |_,_=>none
  |.builtin .min=>match opers bI c.args.toList with
   |some (x::r)=>gg (vt NY x r) s
   |_=>none
  |.builtin .max=>match opers bI c.args.toList with
   |some (x::r)=>gg (vt NZ x r) s
   |_=>none
  |_=>none
 |_=>none
end Go.Am
end
section
namespace Go.Am
open Go.RowKit
def uD(o:Option Nat):Fence:={Fence.wide with round:=o}
def vW(G:bZ)(ρ:Option Nat):Option Nat:=match ρ with
 |none=>none
 |some id=>(G.own id).map (·.block)
theorem pG{o:Option Nat}{n:Nat}{P:Program}{f:FuncId}{args:Array Value}{w:World}{R:Ending->World->Prop}(h:Calls P f args w R):CallsIn (uD o) n P f args w R:=
 have h':CallsIn Fence.wide n P f args w R:=callsIn_wide.2 h
 h'
def vX(G:bZ)(s:St)(w:World)(Q:AV->St->Prop)(e:Ending)(w':World):Prop:=
 ∃v G' x s',e=.returned v/\V G' x v/\eA G' s' w'/\Ext G s w G' s' w'/\Q x s'
theorem vX.mono{G:bZ}{s:St}{w:World}{Q Q':AV->St->Prop}{e:Ending}{w':World}(h:vX G s w Q e w')(hq: ∀x s',Q x s'->Q' x s'):vX G s w Q' e w':=
 let⟨v,G',x,s',a,b,c,d,q⟩:=h;⟨v,G',x,s',a,b,c,d,hq _ _ q⟩
def dJ(P:Program)(f:FuncId)(args:List AV)(s:St)(Q:AV->St->Prop):Prop:=
 ∀G w vs,eA G s w->VL G args vs->Calls P f vs w (vX G s w Q)
theorem dJ.mono{P:Program}{f:FuncId}{args:List AV}{s:St}{Q Q':AV->St->Prop}(h:dJ P f args s Q)(hq: ∀x s',Q x s'->Q' x s'):dJ P f args s Q':=
 λG w vs hs hv=>(h G w vs hs hv).mono λ_ _ hg=>hg.mono hq
def iM(P:Program)(id:Nat)(args:List AV)(s:St)(Q:AV->St->Prop):Prop:=
 ∀o G w r vs,eA G s w->G.own id=some r->VL G args vs-> ∃fn tmps assign body,(Instr.yield r.block vs).run P w=.ok (.round r.block fn tmps assign body) w/\
  RoundIn (uD o) 0 P r.block fn tmps assign body w (vX G s w Q)
theorem iM.mono{P:Program}{f:FuncId}{args:List AV}{s:St}{Q Q':AV->St->Prop}(h:iM P f args s Q)(hq: ∀x s',Q x s'->Q' x s'):iM P f args s Q':=
 λo G w r vs hs hr hv=>let⟨fn,tmps,assign,body,h1,h2⟩:=h o G w r vs hs hr hv;⟨fn,tmps,assign,body,h1,h2.mono λ_ _ hg=>hg.mono hq⟩
def om(G:bZ)(s:St):List Deferred->Prop
 | []=>True
 |d::ds=>(∃id r,bH s.heap id=some .gb/\G.own id=some r/\d.target=.collected r.block/\ ∀d'∈ds,∀b,d'.target=.collected b->b≠r.block)/\om G s ds
theorem om.ext{G G':bZ}{s s':St}{w w':World}(h:Ext G s w G' s' w'): ∀{ds:List Deferred},om G s ds->om G' s' ds
 | [],_=>trivial
 |_::_,⟨⟨id,r,a,b,c,d⟩,hr⟩=>⟨⟨id,r,h.gb id a,h.le.own _ _ b,c,d⟩,om.ext h hr⟩
def vu(G:bZ)(ρ:Option Nat):Prop:= ∀id,ρ=some id-> ∃r,G.own id=some r
theorem GL{G G':bZ}{ρ:Option Nat}(h:rC G G')(hk:vu G ρ):vW G' ρ=vW G ρ:=by
 cases ρ with
 |none=>rfl
 |some id=>
  obtain⟨r,hr⟩:=hk id rfl
  simp[vW,hr,h.own _ _ hr]
theorem vu.le{G G':bZ}{ρ:Option Nat}(h:rC G G')(hk:vu G ρ):vu G' ρ:=λid e=>let⟨r,hr⟩:=hk id e;⟨r,h.own _ _ hr⟩
structure wB (G:bZ) (N:Nat) (ρ:Option Nat) (bI:Env) (s:St) (a:Act) (w:World):Prop where
 iE:eA G s w
 bI:iX G bI a.tmps
 size:a.tmps.size=N
 lQ:om G s a.defers
 known:vu G ρ
def gM(G:bZ)(N:Nat)(ρ:Option Nat)(s:St)(w:World)(Q:Exit->Env->St->Prop)(e:Exit)(a':Act)(w':World):Prop:=
 ∃G' env' s',wB G' N ρ env' s' a' w'/\Ext G s w G' s' w'/\Q e env' s'
def lA(P:Program)(N:Nat)(ρ:Option Nat)(c:Code)(Q:Exit->Env->St->Prop)(bI:Env)(s:St):Prop:=
 ∀G w a,wB G N ρ bI s a w->c.wpIn (uD (vW G ρ)) 0 P (gM G N ρ s w Q) a w
def QZ(K:Env->St->Prop)(Q:Exit->Env->St->Prop):Exit->Env->St->Prop
 |.normal,bI,s=>K bI s
 |e,bI,s=>Q e bI s
def oq(id:Nat)(Q:Exit->Env->St->Prop):Exit->Env->St->Prop
 |.exit fq,bI,s=>if fq=id then Q .normal bI s else Q (.exit fq) bI s
 |e,bI,s=>Q e bI s
def fp(d:Option Nat)(v:AV)(bI:Env):Env:=match d with
 |some d=>dT bI d v
 |none=>bI
def enters(P:Program)(f:FuncId):Bool:=match P.funcs[f]? with
 | some fn => fn.name != "runtime.NumGoroutine" && fn.body.isSome
 |none=>false
def fS:Op->Option (Operand×List Operand)
 |.call {callee:=.value f,args,..}=>some (f,args.toList)
 |_=>none
def Um(P:Program)(o:Oper)(K:AV->St->Prop)(bI:Env)(s:St):Prop:=
 match fS o.op with
 |some (f,args)=>match oper bI f,opers bI args with
  |some (.fn g fH),some l=>enters P g=true/\dJ P g (l++fH) s K
  |some (.kt id),some l=>iM P id l s K
  |_,_=>False
 |none=>match iL P o.op bI s with
  |some (v,s')=>K v s'
  |none=>False
def WX(ops:Array Oper)(o:Oper)(bI:Env)(A B:Prop):Prop:=
 match o.guard with
 |none=>A
 |some (j,want)=>match(ops[j]?).bind (·.dst)with
  |some d=>match bH bI d with
   |some (.bool b)=>(b=want->A)/\(b=!want->B)
   |some (.dW [])=>B
   |_=>False
  |none=>False
def l9(N:Nat):Option Nat->Bool
 |some d=>decide (d<N)
 |none=>true
section
variable {P:Program} {N:Nat} {ρ:Option Nat} {Q Q':Exit->Env->St->Prop} {bI:Env} {s:St}
theorem gM.mono{G:bZ}{w:World}{e:Exit}{a':Act}{w':World}(h:gM G N ρ s w Q e a' w')(hq: ∀e bI s,Q e bI s->Q' e bI s):gM G N ρ s w Q' e a' w':=
 let⟨G',env',s',a,b,c⟩:=h;⟨G',env',s',a,b,hq _ _ _ c⟩
theorem lA.mono{c:Code}(h:lA P N ρ c Q bI s)(hq: ∀e bI s,Q e bI s->Q' e bI s):lA P N ρ c Q' bI s:=
 λG w a hn=>wpIn_mono (h G w a hn) λ_ _ _ ha=>ha.mono hq
theorem wB.after{G:bZ}{e:Exit}{a:Act}{w:World}(h:wB G N ρ bI s a w)(hq:Q e bI s):gM G N ρ s w Q e a w:=⟨G,bI,s,h,.refl _ _ _,hq⟩
theorem lA.later{c:Code}{G G':bZ}{s0:St}{w0:World}{w:World}{a:Act}(h:lA P N ρ c Q bI s)(h0:eA G s0 w0)(hk:vu G ρ)(hx:Ext G s0 w0 G' s w)(hn:wB G' N ρ bI s a w):
  c.wpIn (uD (vW G ρ)) 0 P (gM G N ρ s0 w0 Q) a w:=by
 have:=h G' w a hn
 rw[GL hx.le hk]at this
 exact wpIn_mono this λe a' w' ⟨G2,uE,s2,n2,x2,q2⟩=>⟨G2,uE,s2,n2,.trans h0 hx x2,q2⟩
theorem N0(h:Q .ret bI s):lA P N ρ .ret Q bI s:=λ_ _ _ hn=>wpIn_ret (hn.after h)
theorem Bh{x y:Code}(h:lA P N ρ x (QZ (lA P N ρ y Q) Q) bI s):lA P N ρ (.seq x y) Q bI s:=λG w a hn=>by
 refine wpIn_seq (wpIn_mono (h G w a hn) ?_)
 rintro e a' w' ⟨G',env',s',n',x',q'⟩
 cases e with
 |normal=>exact lA.later q' hn.iE hn.known x' n'
 |exit id=>exact⟨G',env',s',n',x',q'⟩
 |goto l=>exact⟨G',env',s',n',x',q'⟩
 |ret=>exact⟨G',env',s',n',x',q'⟩
 |panic ch=>exact⟨G',env',s',n',x',q'⟩
 |outgrown=>exact⟨G',env',s',n',x',q'⟩
theorem Iy{id:Nat}{c:Code}(h:lA P N ρ c (oq id Q) bI s):lA P N ρ (.block id c) Q bI s:=λG w a hn=>by
 refine wpIn_block (wpIn_mono (h G w a hn) ?_)
 rintro e a' w' ⟨G',env',s',n',x',q'⟩
 cases e with
 |exit fq=>
  simp only[oq]at q'
  simp only[Exit.inBlock]
  split
  ·rename_i he;rw[if_pos he]at q';exact⟨G',env',s',n',x',q'⟩
  ·rename_i he;rw[if_neg he]at q';exact⟨G',env',s',n',x',q'⟩
 |normal=>exact⟨G',env',s',n',x',q'⟩
 |goto l=>exact⟨G',env',s',n',x',q'⟩
 |ret=>exact⟨G',env',s',n',x',q'⟩
 |panic ch=>exact⟨G',env',s',n',x',q'⟩
 |outgrown=>exact⟨G',env',s',n',x',q'⟩
theorem Fc{F:Fence}{n:Nat}{R:Exit->Act->World->Prop}{c:Code}(J:Nat->Act->World->Prop)
  (round: ∀k a w,J k a w->c.wpIn F n P (Exit.then (λa' w'=> ∃k',k'<k/\J k' a' w') R) a w) {k:Nat} {a:Act} {w:World} (h0:J k a w):(Code.loop c).wpIn F n P R a w:=by
 intro b kk cs Iz hb hr
 have key: ∀j a w,J j a w-> ∃e a' w',R e a' w'/\ArrivesIn (Machine.fenced P F) P (lone (b.atR a (.code c::.inLoop c::kk)) cs w) b kk cs e a' w':=by
  intro j
  induction j using Nat.strongRecOn with
  |_ j ih=>
   intro a w hI
   obtain⟨e,vY,vZ,hq,rT⟩:=round j a w hI b (.inLoop c::kk) cs Iz hb hr
   cases e with
   |normal=>
    obtain⟨k',gh,Un⟩:=hq
    obtain⟨Yo,Yp,Yq,Uo,N1⟩:=ih k' gh vY vZ Un
    exact⟨Yo,Yp,Yq,Uo,.of_steps (StepsIn.trans rT (.one (fenced_calm hb hr rfl) stepR_inLoop)) N1⟩
   |exit id=>exact⟨_,vY,vZ,hq,.pass (x:=.inLoop c) rfl (λ_ _=>.inl (by simp)) rT⟩
   |goto l=>exact⟨_,vY,vZ,hq,.pass (x:=.inLoop c) rfl (λ_ _=>.inl (by simp)) rT⟩
   |ret=>exact⟨_,vY,vZ,hq,.pass (x:=.inLoop c) rfl (λ_ _=>.inl (by simp)) rT⟩
   |panic ch=>exact⟨_,vY,vZ,hq,.pass (x:=.inLoop c) rfl (λ_ _=>.inl (by simp)) rT⟩
   |outgrown=>exact⟨_,vY,vZ,hq,.pass (x:=.inLoop c) rfl (λ_ _=>.inl (by simp)) rT⟩
 obtain⟨e,a',w',hq,rT⟩:=key k a w h0
 exact⟨e,a',w',hq,.of_steps (.one (fenced_calm hb hr rfl) stepR_loop) rT⟩
theorem CX{G:bZ}{v:Value}{x:AV}(h:xb v=some x):V G x v:=by
 unfold xb at h
 split at h<;>cases h
 ·exact .bool _
 ·exact .int _ _
 ·exact .str _
 ·exact .ij
 ·exact .mD
 ·exact .slnil _ _ _ (λ_=>rfl) (λ_=>rfl)
theorem zZ{G:bZ}: ∀{l:List Value}{xs:List AV},sV l=some xs->xs.length=l.length/\ ∀(i:Nat)x y,xs[i]? =some x->l[i]? =some y->V G x y
 | [],xs,h=>by simp[sV]at h;subst h;simp
 |v::r,xs,h=>by
  simp only[sV]at h
  split at h
  ·rename_i x l h1 h2
   cases h
   obtain⟨e1,e2⟩:=zZ (G:=G) h2
   refine⟨by simp[e1],λi a b ha hb=>?_⟩
   cases i with
   |zero=>simp at ha hb;subst ha;subst hb;exact CX h1
   |succ i=>exact e2 i a b (by simpa using ha) (by simpa using hb)
  ·cases h
theorem qq{G:bZ}{v:Value}{x:AV}(h:ofValue v=some x):V G x v:=by
 unfold ofValue at h
 split at h
 ·rename_i cs
  split at h
  ·rename_i l hl
   cases h
   obtain⟨e1,e2⟩:=zZ (G:=G) hl
   exact .agg _ _ (by simpa using e1) λi a b ha hb=>e2 i a b ha (by simpa using hb)
  ·cases h
 ·exact CX h
theorem eB{G:bZ}{a:Act}(he:iX G bI a.tmps){o:Operand}{x:AV}(h:oper bI o=some x):V G x (a.eval o):=by
 cases o with
 |tmp t=>exact(he t x h).2
 |const v=>exact qq h
 |func f=>cases h;exact .fn f [] #[] rfl (by simp)
 |global g=>cases h
theorem qs{G:bZ}{a:Act}(he:iX G bI a.tmps): ∀{l:List Operand}{xs:List AV},opers bI l=some xs->
  xs.length=l.length/\ ∀(i:Nat)x y,xs[i]? =some x->(l.map a.eval)[i]? =some y->V G x y
 | [],xs,h=>by simp[opers]at h;subst h;simp
 |o::r,xs,h=>by
  simp only[opers]at h
  split at h
  ·rename_i x l h1 h2
   cases h
   obtain⟨e1,e2⟩:=qs he h2
   refine⟨by simp[e1],λi a b ha hb=>?_⟩
   cases i with
   |zero=>simp at ha hb;subst ha;subst hb;exact eB he h1
   |succ i=>exact e2 i a b (by simpa using ha) (by simpa using hb)
  ·cases h
theorem sX{G:bZ}{a:Act}(he:iX G bI a.tmps){l:Array Operand}{xs:List AV}(h:opers bI l.toList=some xs):VL G xs (l.map a.eval):=by
 obtain⟨e1,e2⟩:=qs he h
 exact⟨by simpa using e1,λi x y hx hy=>e2 i x y hx (by simpa using hy)⟩
theorem CY{c:Operand}{x y:Code}{b:Bool}(hc:oper bI c=some (.bool b))(ht:b=true->lA P N ρ x Q bI s)(hf:b=false->lA P N ρ y Q bI s):
  lA P N ρ (.cond c x y) Q bI s:=λG w a hn=>by
 have hv:=eB hn.bI hc
 generalize hq:a.eval c=v at hv
 cases hv
 exact wpIn_cond_split hq (λe=>ht e G w a hn) (λe=>hf e G w a hn)
theorem iX.sub{G:bZ}{bI env':Env}{tmps:Array Value}(h:iX G bI tmps)(hs: ∀t x,bH env' t=some x->bH bI t=some x):iX G env' tmps:=λt x hx=>h t x (hs t x hx)
theorem om.drop{G:bZ}{s s':St}(hd: ∀id,bH s.heap id=some .gb->bH s'.heap id=some .gb): ∀{ds:List Deferred},om G s ds->om G s' ds
 | [],_=>trivial
 |_::_,⟨⟨id,r,a,b,c,d⟩,hr⟩=>⟨⟨id,r,hd id a,b,c,d⟩,om.drop hd hr⟩
end
end Go.Am
end
section
namespace Go.Am
open Go.RowKit
section
variable {P:Program} {G:bZ} {s s':St} {w:World}
def sN(P:Program)(G:bZ)(s:St)(w:World)(N2:Sem Value)(x:AV)(s':St):Prop:=
 ∃v G' w',N2.run P w=.ok v w'/\V G' x v/\eA G' s' w'/\Ext G s w G' s' w'
theorem dG(hs:eA G s w){N2:Sem Value}{x:AV}{v:Value}(hr:N2.run P w=.ok v w)(hv:V G x v):sN P G s w N2 x s:=⟨v,G,w,hr,hv,hs,.refl _ _ _⟩
theorem gN{t:TypeId}{i:TypeInfo}(h:P.info? t=some i)(w:World):(typeInfo t).run P w=.ok i w:=by simp[typeInfo,h]
theorem ma{t n:Nat}(h:dl P t=some n): ∃i,P.info? t=some i/\i.size=n:=by
 unfold dl at h
 cases hi:P.info? t with
 |none=>simp[hi]at h
 |some i=>simp[hi]at h;exact⟨i,rfl,h⟩
theorem pH{t n:Nat}(h:oh P t=some n): ∃i,P.info? t=some i/\i.bytes=n:=by
 unfold oh at h
 cases hi:P.info? t with
 |none=>simp[hi]at h
 |some i=>simp[hi]at h;exact⟨i,rfl,h⟩
theorem dX{t n:Nat}(h:dl P t=some n)(w:World):(sizeOf t).run P w=.ok n w:=by
 obtain⟨i,hi,rfl⟩:=ma h
 simp[sizeOf,gN hi]
theorem sY{t:Nat}{b:Bool}(h:Kd P t=some b)(w:World):(isAgg t).run P w=.ok b w:=by
 unfold Kd at h
 cases hu:P.underlying t with
 |none=>simp[hu]at h
 |some d=>
  simp only[hu,gl,Option.some.injEq]at h
  simp only[isAgg,Sem.run_bind,run_underlying hu,Result.andThen_ok]
  cases d<;>simp_all
theorem jO{t:Nat}{x:AV}(h:ji P t=some x)(w:World)(G:bZ): ∃v,(zeroValue t).run P w=.ok v w/\V G x v:=by
 unfold ji at h
 cases hi:P.info? t with
 |none=>simp[hi]at h
 |some i=>
  cases hz:i.zero with
  |none=>simp[hi,hz]at h
  |some v=>
   simp[hi,hz]at h
   exact⟨v,by simp[zeroValue,gN hi,hz],qq h⟩
theorem fj{t e:Nat}(h:dU P t=some e):P.underlying t=some (.slice e):=by
 unfold dU at h
 split at h<;>simp_all
theorem Bi{t n e:Nat}(h:vU P t=some (n,e)):P.underlying t=some (.array n e):=by
 unfold vU at h
 split at h<;>simp_all
theorem Bj{t:Nat}(h:vV P t=true):P.underlying t=some .string:=by
 unfold vV at h
 split at h<;>simp_all
theorem Kf{t:Nat}{k:IntKind}(h:E8 P t=some k):P.underlying t=some (.int k):=by
 unfold E8 at h
 split at h<;>simp_all
theorem xg{t i off n:Nat}(h:mU P t i=some (off,n)): ∃fs f,P.underlying t=some (.struct fs)/\fs[i]? =some f/\f.offset=off/\dl P f.type=some n:=by
 unfold mU at h
 split at h
 ·rename_i fs hu
  split at h
  ·rename_i f hf
   split at h
   ·rename_i m hm
    cases h;exact⟨fs,f,hu,hf,rfl,hm⟩
   ·cases h
  ·cases h
 ·cases h
def pI(G:bZ)(w:World)(b o:Nat)(cs:List AV):Prop:= ∀k x,cs[k]? =some x-> ∃v,w.cell? ⟨b,o+k,none⟩=some v/\V G x v
theorem eA.there(hs:eA G s w){id el off cz:Nat}{elems:List AV}{e:AV}{r:ux}(hg:bH s.heap id=some (.cells cz elems))(ho:G.own id=some r)(he:elems[el]? =some e):
  pI G w r.block (r.bQ+el*r.cz+off) (e.cells.drop off):=by
 obtain⟨o,e2,e3⟩:=hs.at hg ho
 cases e3 with
 |cells _ _ cs ty eo dS h0 iz jg eP hV=>
  intro k x hx
  rw[J8]at hx
  obtain⟨v,hv,pp⟩:=hV _ x (og iz he (off+k) x hx)
  refine⟨v,?_,pp⟩
  subst dS
  simp only[World.cell?,e2]
  rw[show r.bQ+el*r.cz+off+k=r.bQ+(el*r.cz+(off+k))from by omega]
  simpa using hv
theorem rE(hs:eA G s w){p:AV}{pv:Value}(hp:V G p pv){cs:List AV}(h:mI s p=some cs): ∃b o,pv=.pointer (some ⟨b,o,none⟩)/\pI G w b o cs:=by
 cases hp with
 |mp id el off r ho=>
  simp only[mI]at h
  split at h
  ·rename_i cz elems hg
   split at h
   ·rename_i e he
    cases h
    exact⟨_,_,rfl,hs.there hg ho he⟩
   ·cases h
  ·cases h
 |ip cells b off val gF hV=>
  cases h
  refine⟨b,off,rfl,λk x hx=>⟨val k,hs.gD _ _ _ (gF k (fM.1 hx).1),hV k x hx⟩⟩
 |_=>simp[mI]at h
theorem mV(b o n:Nat):(⟨b,o,none⟩:Addr).add n=⟨b,o+n,none⟩:=by unfold Addr.add;split<;>simp_all
theorem pI.loadCells{b o n:Nat}{cs:List AV}(h:pI G w b o cs)(hn:n<=cs.length): ∃vs:Array Value,(loadCells ⟨b,o,none⟩ n).run P w=.ok vs w/\VL G (cs.take n) vs:=by
 refine⟨((List.range n).map λj=>(w.cell? ⟨b,o+j,none⟩).getD undef).toArray,?_,?_⟩
 ·refine run_loadCells w _ n _ λj hj=>?_
  rw[mV]
  have hl:j<cs.length:=by omega
  obtain⟨v,hv,_⟩:=h j cs[j] (dC hl)
  simp[hv]
 ·refine⟨by simp;omega,λi x y hx hy=>?_⟩
  have hi:i<n:=by
   have:=(fM.1 hx).1
   simp at this;omega
  rw[Te,if_pos hi]at hx
  obtain⟨v,hv,hV⟩:=h i x hx
  simp[hi,hv]at hy
  subst hy;exact hV
theorem pI.read{b o t:Nat}{cs:List AV}{x:AV}(h:pI G w b o cs)(hr:pE P t cs=some x): ∃v,(loadVar t ⟨b,o,none⟩).run P w=.ok v w/\V G x v:=by
 unfold pE at hr
 split at hr
 ·rename_i ha
  split at hr
  ·rename_i n hn
   split at hr
   ·rename_i ep
    cases hr
    obtain⟨vs,e1,e2⟩:=h.loadCells (P:=P) ep
    exact⟨.agg vs,by simp[loadVar,sY ha,dX hn,e1],.agg _ _ e2.1 e2.2⟩
   ·cases hr
  ·cases hr
 ·rename_i ha
  split at hr
  ·rename_i y l
   cases hr
   obtain⟨v,e1,e2⟩:=h 0 x rfl
   refine⟨v,?_,e2⟩
   simp only[CD]at e1
   simp[loadVar,sY ha,e1]
  ·cases hr
 ·cases hr
theorem ot{t off:Nat}{cs:List AV}{vs:Array Value}{x:AV}(h:VL G cs vs)(hr:pE P t (cs.drop off)=some x): ∃v,(part t vs off).run P w=.ok v w/\V G x v:=by
 unfold pE at hr
 split at hr
 ·rename_i ha
  split at hr
  ·rename_i n hn
   split at hr
   ·rename_i ep
    cases hr
    refine⟨.agg (vs.extract off (off+n)),by simp[part,sY ha,dX hn],.agg _ _ ?_ ?_⟩
    ·have:=h.1
     simp at ep |-
     omega
    ·intro i a b Kg hb
     have hi:i<n:=by
      have:=(fM.1 Kg).1
      simp at this;omega
     rw[Te,if_pos hi,J8]at Kg
     rw[Array.getElem?_extract]at hb
     split at hb
     ·exact h.2 _ _ _ Kg hb
     ·cases hb
   ·cases hr
  ·cases hr
 ·rename_i ha
  split at hr
  ·rename_i y l heq
   cases hr
   have hx:cs[off]? =some x:=by
    have:=congrArg (λl:List AV=>l[0]?) heq
    simpa[J8]using this
   obtain⟨v,e1,e2⟩:=h.get hx
   refine⟨v,?_,e2⟩
   simp[part,sY ha,e1]
  ·cases hr
 ·cases hr
theorem Kh(hs:eA G s w){t:TypeId}{p x:AV}{pv:Value}(hp:V G p pv)(h:oX P t p s=some x):sN P G s w (Instr.loadAt t pv) x s:=by
 unfold oX at h
 split at h
 ·rename_i cs hc
  obtain⟨b,o,rfl,ht⟩:=rE hs hp hc
  obtain⟨v,e1,e2⟩:=ht.read (P:=P) h
  exact dG hs (by simp[Instr.loadAt,Instr.sureAddr,e1]) e2
 ·cases h
theorem VL.length{cs:List AV}{vs:Array Value}(h:VL G cs vs):cs.length=vs.size:=h.1
theorem GM(hs:eA G s w){t:TypeId}{x y:AV}{v:Value}(hv:V G x v)(h:Bg x s=some (y,s')):sN P G s w (Instr.box t v) y s':=by
 unfold Bg at h
 split at h
 ·rename_i hc
  cases h
  have hx:x≠ .any:=λe=>by subst e;simp[AV.cells,AV.cS]at hc
  have hl:=VL.cells hv hx
  obtain⟨h1,h2⟩:=hs.put (o:=.cells v.cells t) (blk:=.cells x.cells.length [x]) (r:=⟨w.heap.size,0,x.cells.length,v.cells.size⟩) rfl
   (.cells _ _ _ _ rfl rfl hc.1 (by simp) (by simpa[di]using hc.2) (by simp[hl.1]) λk z hz=>by
    simp[di]at hz
    obtain⟨u,e1,e2⟩:=hl.get hz
    exact⟨u,by simpa using e1,e2.mono (.put (hs.cq _ (eu _)))⟩)
  refine⟨.pointer (some ⟨w.heap.size,0,none⟩),_,_,?_,?_,h1,h2⟩
  ·simp[Instr.box,newVar,newRow]
  ·have:=V.mp (G:=G.put s.bS ⟨w.heap.size,0,x.cells.length,v.cells.size⟩) s.bS 0 0 _ (by simp[bZ.put];rfl)
   simpa using this
 ·cases h
theorem IA(hs:eA G s w){t:TypeId}{z y:AV}(hz:ji P t=some z)(h:Bg z s=some (y,s')):sN P G s w (Instr.alloc t true (.tuple #[])) y s':=by
 obtain⟨v,e1,e2⟩:=jO hz w G
 obtain⟨u,G',w',e3,e4⟩:=GM (P:=P) (t:=t) hs e2 h
 refine⟨u,G',w',?_,e4⟩
 simp only[Instr.alloc,Sem.run_bind,e1,Result.andThen_ok]
 simpa[Instr.box]using e3
theorem cells_one{x:AV}(h:x.cS=true):x.cells=[x]:=by
 cases x<;>first|rfl|(simp[AV.cS]at h)
theorem xh: ∀{l:List AV},l.all AV.cS=true->di l=l
 | [],_=>rfl
 |x::l,h=>by
  simp only[WE,eW]at h
  simp only[di,E5,cells_one h.1]
  exact congrArg (x:: ·) (xh h.2)
theorem Fe(hs:eA G s w){t:TypeId}{z y:AV}(hz:ji P t=some z)(h:CV z s=some (y,s')):sN P G s w (Instr.alloc t true (.tuple #[])) y s':=by
 obtain⟨v,e1,hv⟩:=jO hz w G
 unfold CV at h
 split at h
 ·rename_i hc
  cases h
  have hx:z≠ .any:=λe=>by subst e;simp[AV.cells,AV.cS]at hc
  have hl:=VL.cells hv hx
  obtain⟨h1,h2⟩:=hs.put (o:=.cells v.cells t) (blk:=.cells 1 z.cells) (r:=⟨w.heap.size,0,1,v.cells.size⟩) rfl
   (.cells _ _ _ _ rfl rfl (by omega) (λe he=>by rw[cells_one (py.1 hc.2 e he)];rfl) (by rw[xh hc.2];exact py.1 hc.2) (by simp[hl.1]) λk x hx=>by
    rw[xh hc.2]at hx
    obtain⟨u,e1,e2⟩:=hl.get hx
    exact⟨u,by simpa using e1,e2.mono (.put (hs.cq _ (eu _)))⟩)
  refine⟨.pointer (some ⟨w.heap.size,0,none⟩),_,_,?_,?_,h1,h2⟩
  ·simp only[Instr.alloc,Sem.run_bind,e1,Result.andThen_ok]
   simp[newVar,newRow]
  ·have:=V.mp (G:=G.put s.bS ⟨w.heap.size,0,1,v.cells.size⟩) s.bS 0 0 _ (by simp[bZ.put];rfl)
   simpa using this
 ·cases h
theorem V.N3{x:AV}{v:Value}(h:V G x v)(hx:x.cS=true):v.oneCell'=true:=by
 cases h<;>simp_all[AV.cS,Value.oneCell']
theorem oY(l:List AV)(k:Nat)(new:List AV)(i:Nat)(h:k+new.length<=l.length):
  (jj l k new)[i]? =if i<k then l[i]? else if i<k+new.length then new[i-k]? else l[i]?:=by
 unfold jj
 by_cases h1:i<k
 ·rw[nq (by simp;omega),if_pos h1,Te,if_pos h1]
 ·rw[pn (by simp;omega),if_neg h1]
  simp only[CS,show min k l.length=k from by omega]
  by_cases h2:i<k+new.length
  ·rw[if_pos h2,nq (by omega)]
  ·rw[if_neg h2,pn (by omega),J8]
   congr 1;omega
theorem mW(l:List AV)(k:Nat)(new:List AV)(h:k+new.length<=l.length):(jj l k new).length=l.length:=by
 simp[jj];omega
theorem kW(Tn:Array Value)(k:Nat)(new:List Value)(i:Nat)(h:k+new.length<=Tn.size):
  ((Tn.toList.take k++new++Tn.toList.drop (k+new.length)).toArray)[i]? =if i<k then Tn[i]? else if i<k+new.length then new[i-k]? else Tn[i]?:=by
 simp only[List.getElem?_toArray]
 by_cases h1:i<k
 ·rw[CT,nq (by simp;omega),if_pos h1,Te,if_pos h1];simp
 ·rw[CT,pn (by simp;omega),if_neg h1]
  simp only[CS,E6,show min k Tn.size=k from by omega]
  by_cases h2:i<k+new.length
  ·rw[if_pos h2,nq (by omega)]
  ·rw[if_neg h2,pn (by omega),J8]
   simp
   congr 1;omega
theorem Bl(e:AV)(cs:List AV)(h:cs.length=e.cells.length)(hs: ∀x∈cs,x.cS=true):(pF e cs).cells=cs:=by
 have one:e.cells=[e]->(∀l,pF e l=match l with|x::_=>x| []=>.any)->(pF e cs).cells=cs:=λh1 h2=>by
  rw[h1]at h
  match cs,h with
  | [x],_=>
   have:=hs x (by simp)
   rw[h2]
   cases x<;>simp_all[AV.cells,AV.cS]
 cases e with
 |agg l=>rfl
 |_=>exact one rfl λ_=>rfl
theorem setRow_other(w:World)(g:Nat)(cs:Array Value)(b:Nat)(h:b≠g):(w.setRow g cs).heap[b]? =w.heap[b]?:=by
 simp only[World.setRow,Array.getElem?_modify]
 rw[if_neg (by omega)]
theorem xi(hs:eA G s w){id cz:Nat}{elems elems':List AV}{r:ux}{cs:Array Value}{ty:TypeId}(hg:bH s.heap id=some (.cells cz elems))(ho:G.own id=some r)
  (hw:w.heap[r.block]? =some (.cells cs ty (0,0))) {cs':Array Value} (eo:cs'.size=r.size) (dS:r.cz=cz) (h0:0<cz) (iz: ∀x∈elems',x.cells.length=cz)
  (jg: ∀x∈di elems',x.cS=true) (eP:r.bQ+elems'.length*cz<=r.size) (hV: ∀k x,(di elems')[k]? =some x-> ∃v,cs'[r.bQ+k]? =some v/\V G x v):
  eA G ⟨dT s.heap id (.cells cz elems'),s.bS⟩ (w.setRow r.block cs')/\Ext G s w G ⟨dT s.heap id (.cells cz elems'),s.bS⟩ (w.setRow r.block cs'):=
 hs.turn hg ho (by simp[World.setRow]) rfl rfl rfl (λb hb=>setRow_other w _ _ _ hb) (setRow_heap w _ cs cs' ty _ hw) (.cells cz elems' cs' ty eo dS h0 iz jg eP hV) (by simp)
end
end Go.Am
end
section
namespace Go.Am
open Go.RowKit
section
variable {P:Program} {G:bZ} {s s':St} {w:World}
theorem jP{l:List AV}(h:l.all AV.cS=true): ∀x∈l,x.cS=true:=by simpa using h
theorem lR{x:AV}(h:x.cells.all AV.cS=true):x≠ .any:=λe=>by subst e;simp[AV.cells,AV.cS]at h
theorem VL.sZ{cs:List AV}{vs:Array Value}(h:VL G cs vs)(hs: ∀x∈cs,x.cS=true): ∀v∈vs.toList,v.oneCell'=true:=by
 intro v hv
 obtain⟨i,hi,rfl⟩:=pA hv
 have Bm:i<cs.length:=by rw[h.1];simpa using hi
 exact(h.2 i cs[i] _ (dC Bm) (by simp)).N3 (hs _ (zo Bm))
theorem Ff{k e m:Nat}(h0:0<m)(h:k / m=e):e*m<=k/\k<e*m+m/\k%m=k-e*m:=by
 subst h
 have h1:=WD k m
 have h2:=Nat.mod_lt k h0
 rw[QO]at h1
 omega
theorem Ki{elems:List AV}{el:Nat}{e:AV}(y:AV){i:Nat}{z:AV}(he:elems[el]? =some e)(h:(elems.set el y)[i]? =some z):(i=el/\z=y)\/(i≠el/\elems[i]? =some z):=by
 rw[WG]at h
 have hl:=(fM.1 he).1
 split at h
 ·rename_i hi
  subst hi
  cases h;exact .inl ⟨rfl,rfl⟩
 ·rename_i hi
  exact .inr ⟨λe=>hi e.symm,h⟩
theorem IB(hs:eA G s w){t:TypeId}{p x:AV}{pv v:Value}(hp:V G p pv)(hx:V G x v)(h:xc P t p x s=some s'):
  ∃w',(Instr.storeAt t pv v).run P w=.ok () w'/\eA G s' w'/\Ext G s w G s' w':=by
 unfold xc at h
 split at h
 case h_2=>cases h
 rename_i id el off
 split at h
 case h_2=>cases h
 rename_i cz elems hg
 split at h
 case h_2=>cases h
 rename_i e he
 split at h
 case isFalse=>cases h
 rename_i hc
 obtain⟨eo,ep,iA⟩:=hc
 cases h
 cases hp with
 |mp _ _ _ r ho=>
  have hl:=VL.cells hx (lR iA)
  have Up:=jP iA
  obtain⟨o,e2,e3⟩:=hs.at hg ho
  cases e3 with
  |cells _ _ cs ty s7 dS h0 iz jg eP hV=>
   have Yr:el<elems.length:=(fM.1 he).1
   have Ys:e.cells.length=cz:=iz e (gx he)
   have hmul:(el+1)*cz<=elems.length*cz:=zp _ Yr
   rw[uw]at hmul
   have dt:v.cells.toList.length=x.cells.length:=by simp[hl.1]
   have ou:r.bQ+el*cz+off+0+v.cells.toList.length<=cs.size:=by rw[dt,s7];omega
   have fh:=run_storeCells_at P r.block (r.bQ+el*cz+off) ty v.cells.toList 0 cs w e2 ou (hl.sZ Up)
   simp only[CD]at fh ou
   have zn:(jj e.cells off x.cells).length=e.cells.length:=mW _ _ _ (by omega)
   have PM: ∀z∈jj e.cells off x.cells,z.cS=true:=by
    intro z hz
    simp only[jj,la]at hz
    have hec: ∀z∈e.cells,z.cS=true:=λz hz=>jg z (by rw[di,sL];exact⟨e,gx he,hz⟩)
    rcases hz with hz|hz|hz
    ·exact hec z (w8 hz)
    ·exact Up z hz
    ·exact hec z (GF hz)
   have Yt:=Bl e (jj e.cells off x.cells) zn PM
   have IC: ∀y∈elems.set el (pF e (jj e.cells off x.cells)),y.cells.length=cz:=by
    intro y hy
    rcases WH hy with hy|rfl
    ·exact iz y hy
    ·rw[Yt,zn,Ys]
   have N4: ∀k z,(di (elems.set el (pF e (jj e.cells off x.cells))))[k]? =some z->
     ∃u,((cs.toList.take (r.bQ+el*cz+off)++v.cells.toList++cs.toList.drop (r.bQ+el*cz+off+v.cells.toList.length)).toArray)[r.bQ+k]? =some u/\V G z u:=by
    intro k z hz
    obtain⟨y,hy,N5⟩:=xa IC h0 hz
    rw[kW _ _ _ _ ou,dt]
    rcases Ki _ he hy with⟨hi,rfl⟩|⟨hi,ND⟩
    ·obtain⟨m1,m2,m3⟩:=Ff h0 hi
     rw[Yt,oY _ _ _ _ (by omega),m3]at N5
     by_cases c1:r.bQ+k<r.bQ+el*cz+off
     ·rw[if_pos c1]
      rw[if_pos (by omega)]at N5
      have:=og iz he (k-el*cz) z N5
      rw[show el*cz+(k-el*cz)=k from by omega]at this
      exact hV k z this
     ·rw[if_neg c1]
      rw[if_neg (by omega)]at N5
      by_cases c2:r.bQ+k<r.bQ+el*cz+off+x.cells.length
      ·rw[if_pos c2]
       rw[if_pos (by omega)]at N5
       obtain⟨u,e1,e2⟩:=hl.get N5
       refine⟨u,?_,e2⟩
       rw[show r.bQ+k-(r.bQ+el*cz+off)=k-el*cz-off from by omega]
       simpa using e1
      ·rw[if_neg c2]
       rw[if_neg (by omega)]at N5
       have:=og iz he (k-el*cz) z N5
       rw[show el*cz+(k-el*cz)=k from by omega]at this
       exact hV k z this
    ·have hk:=og iz ND (k%cz) z N5
     rw[QO,WD]at hk
     have eJ: ¬(el*cz+off<=k/\k<el*cz+off+x.cells.length):=λ⟨a,b⟩=>hi (by
      have:k / cz=el:=Nat.div_eq_of_lt_le (by omega) (by rw[uw];omega)
      exact this)
     by_cases c1:r.bQ+k<r.bQ+el*cz+off
     ·rw[if_pos c1];exact hV k z hk
     ·rw[if_neg c1,if_neg (by omega)];exact hV k z hk
   have Q0: ∀z∈di (elems.set el (pF e (jj e.cells off x.cells))),z.cS=true:=by
    intro z hz
    rw[di,sL]at hz
    obtain⟨y,hy,hz⟩:=hz
    rcases WH hy with hy|rfl
    ·exact jg z (by rw[di,sL];exact⟨y,hy,hz⟩)
    ·rw[Yt]at hz;exact PM z hz
   obtain⟨q1,q2⟩:=xi hs hg ho e2 (cs':=(cs.toList.take (r.bQ+el*cz+off)++v.cells.toList++cs.toList.drop (r.bQ+el*cz+off+v.cells.toList.length)).toArray)
    (by simp only[Ua,kc,CS,Tf,E6]at ou |-;omega) dS h0 IC Q0 (by simpa using eP) N4
   refine⟨_,?_,q1,q2⟩
   subst dS
   have Yu:(sizeOf t).run P w=.ok v.cells.size w:=by rw[dX eo,hl.1]
   simp[Instr.storeAt,Instr.sureAddr,storeVar,Yu,fh]
theorem zr{t:TypeId}{p x:AV}{i:Nat}{pv:Value}(hs:eA G s w)(hp:V G p pv)(h:xd P t p i=some x):sN P G s w (Instr.fieldAt t pv i) x s:=by
 unfold xd at h
 split at h
 case h_2=>cases h
 rename_i off n hf
 obtain⟨fs,f,hu,To,Kj,hn⟩:=xg hf
 split at h
 ·cases h
 ·rename_i Q3
  have run: ∀b o,pv=.pointer (some ⟨b,o,none⟩)->(Instr.fieldAt t pv i).run P w=.ok (.pointer (some ⟨b,o+off,none⟩)) w:=λb o e=>by
   subst e
   simp[Instr.fieldAt,run_underlying hu,To,Instr.sureAddr,fieldPlace,dX hn,Q3,mV,Kj]
  split at h
  ·cases h
   cases hp with
   |mp id el o r ho=>exact dG hs (run _ _ rfl) (by rw[CC];exact .mp _ _ _ r ho)
  ·cases h
   cases hp with
   |ip cells b o val gF hV=>
    refine dG hs (run _ _ rfl) (.ip _ b (o+off) (λk=>val (off+k)) (λk hk=>?_) λk x hx=>?_)
    ·rw[CC];exact gF _ (by simp at hk;omega)
    ·rw[J8]at hx;exact hV _ x hx
  ·cases h
theorem ID{t:TypeId}{p x:AV}{i:Nat}{pv:Value}(hs:eA G s w)(hp:V G p pv)(h:sW P t p i=some x):sN P G s w (Instr.field t pv i) x s:=by
 unfold sW at h
 split at h
 case h_2=>cases h
 rename_i off n ft hf Uq
 obtain⟨fs,f,hu,To,Kj,hn⟩:=xg hf
 have Yv:f.type=ft:=by
  unfold Bf at Uq
  rw[hu]at Uq
  simp[To]at Uq
  exact Uq
 unfold Ke at h
 split at h
 case h_2=>cases h
 rename_i cs
 cases hp with
 |agg _ vs dt hh=>
  subst Kj;subst Yv
  obtain⟨v,e1,e2⟩:=ot (P:=P) (w:=w) ⟨dt,hh⟩ h
  exact dG hs (by simp[Instr.field,run_underlying hu,To,asAgg,e1]) e2
theorem V.pJ{full:Bool}{elems:List AV}{v:Value}(h:V G (.sl full elems) v): ∃bQ cap,v=.slice bQ elems.length cap/\elems.length<=cap/\(full=true->cap=elems.length)/\
  (bQ=none->cap=0)/\(elems=[]\/ ∃(b off cz:Nat)(val:Nat->Value),bQ=some ⟨b,off,none⟩/\(∀e∈elems,e.cells.length=cz)/\(∀x∈di elems,x.cS=true)/\
   (∀k,k<elems.length*cz->G.gD b (off+k)=some (val k))/\ ∀k x,(di elems)[k]? =some x->V G x (val k)):=by
 cases h with
 |slnil full bQ cap hf hb=>exact⟨bQ,cap,rfl,zX _,λe=>hf e,hb,.inl rfl⟩
 |sl _ _ b off cz cap val jG jB dS jg gF hV=>exact⟨_,cap,rfl,jG,jB,(λe=>by cases e),.inr ⟨b,off,cz,val,rfl,dS,jg,gF,hV⟩⟩
theorem IE(hs:eA G s w){elems:List AV}{b off cz:Nat}{val:Nat->Value}(dS: ∀e∈elems,e.cells.length=cz)(gF: ∀k,k<elems.length*cz->G.gD b (off+k)=some (val k))
  (hV: ∀k x,(di elems)[k]? =some x->V G x (val k)):pI G w b off (di elems):=λk x hx=>by
 have hk:k<elems.length*cz:=by rw[<-dy dS];exact(fM.1 hx).1
 exact⟨val k,hs.gD _ _ _ (gF k hk),hV k x hx⟩
theorem zt{t:TypeId}{p i x:AV}{pv iv:Value}(hs:eA G s w)(hp:V G p pv)(hi:V G i iv)(h:eM P t p i s=some x):sN P G s w (Instr.indexAt t pv iv) x s:=by
 unfold eM at h
 split at h
 case h_2=>cases h
 rename_i kd n
 cases hi
 split at h
 ·rename_i e he
  have hu:=fj he
  split at h
  ·rename_i full elems
   split at h
   case isFalse=>cases h
   rename_i hn
   split at h
   case h_2=>cases h
   rename_i y hy
   split at h
   case isFalse=>cases h
   rename_i eo
   cases h
   obtain⟨bQ,cap,rfl,ep,_,_,hz⟩:=V.pJ hp
   have gh:n.toNat<elems.length:=(fM.1 hy).1
   rcases hz with rfl|⟨b,off,cz,val,rfl,dS,_,gF,hV⟩
   ·simp at hy
   ·have hye:y.cells.length=cz:=dS y (gx hy)
    have JT:n<(elems.length:Int):=by omega
    have hmul:(n.toNat+1)*cz<=elems.length*cz:=zp _ gh
    rw[uw]at hmul
    refine dG hs (v:=.pointer (some ⟨b,off+n.toNat*cz,none⟩)) ?_ (.ip _ _ _ (λk=>val (n.toNat*cz+k)) (λk hk=>?_) λk z hz=>?_)
    ·rw[hye]at eo
     simp[Instr.indexAt,asIntOf,run_underlying hu,hn,JT,dX eo,mV]
    ·rw[CC];exact gF _ (by omega)
    ·exact hV _ z (og dS hy k z hz)
  ·rename_i id bL len
   split at h
   case h_2=>cases h
   rename_i cz elems hg
   split at h
   case isFalse=>cases h
   rename_i hc
   obtain⟨h1,h2,h3⟩:=hc
   cases h
   cases hp with
   |gn _ _ _ _ _=>omega
   |ms _ _ _ cap r addr ho ep eP gm=>
    obtain⟨o,e2,e3⟩:=hs.at hg ho
    cases e3 with
    |cells _ _ cs ty s7 dS h0 iz jg CZ hV=>
     have jG:0<cap:=by omega
     rw[gm jG]
     refine dG hs (v:=.pointer (some ⟨r.block,r.bQ+(bL+n.toNat)*r.cz+0,none⟩)) ?_ (.mp _ _ _ r ho)
     subst dS
     simp[Instr.indexAt,asIntOf,run_underlying hu,h1,h2,dX h3,mV,uw,CC]
  ·cases h
 ·split at h
  case h_2=>cases h
  rename_i m e he
  have hu:=Bi he
  split at h
  case h_2=>cases h
  rename_i sz eo
  split at h
  case isFalse=>cases h
  rename_i hc
  obtain⟨h1,h2⟩:=hc
  have run: ∀b o,pv=.pointer (some ⟨b,o,none⟩)->(Instr.indexAt t pv (.int kd n)).run P w=.ok (.pointer (some ⟨b,o+n.toNat*sz,none⟩)) w:=λb o e=>by
   subst e
   simp[Instr.indexAt,asIntOf,run_underlying hu,Instr.sureAddr,h1,h2,dX eo,mV]
  split at h
  ·rename_i id el off
   cases hb:Nat.blt 8 m<;>rw[hb]at h
   ·cases h
    cases hp with
    |mp _ _ _ r ho=>exact dG hs (run _ _ rfl) (by rw[CC];exact .mp _ _ _ r ho)
   ·simp only[cond_true]at h
    split at h
    case h_2=>cases h
    rename_i cz elems hg
    split at h
    case isFalse=>cases h
    rename_i hq
    obtain⟨rfl,rfl⟩:=hq
    cases h
    cases hp with
    |mp _ _ _ r ho=>
     obtain⟨o,_,e3⟩:=hs.at hg ho
     cases e3 with
     |cells _ _ cs ty s7 dS=>
      refine dG hs (run _ _ rfl) ?_
      have:=V.mp (G:=G) id (el+n.toNat) 0 r ho
      rw[dS,uw]at this
      rw[dS]
      simpa[CC]using this
  ·cases h
   cases hp with
   |ip cells b o val gF hV=>
    refine dG hs (run _ _ rfl) (.ip _ b _ (λk=>val (n.toNat*sz+k)) (λk hk=>?_) λk x hx=>?_)
    ·rw[CC];exact gF _ (by simp at hk;omega)
    ·rw[J8]at hx;exact hV _ x hx
  ·cases h
theorem IF{t:TypeId}{p i x:AV}{pv iv:Value}(hs:eA G s w)(hp:V G p pv)(hi:V G i iv)(h:rS P t p i=some x):sN P G s w (Instr.index t pv iv) x s:=by
 unfold rS at h
 split at h
 case h_2=>cases h
 rename_i kd n
 cases hi
 split at h
 ·rename_i b
  split at h
  case isFalse=>cases h
  rename_i hc
  split at h
  case h_2=>cases h
  rename_i c hb
  cases h
  cases hp
  exact dG hs (by simp[Instr.index,asIntOf,run_underlying (Bj hc.1),hc.2,hb]) (.int _ _)
 ·rename_i cs
  split at h
  case h_2=>cases h
  rename_i m e he
  have hu:=Bi he
  split at h
  case h_2=>cases h
  rename_i sz eo
  split at h
  case isFalse=>cases h
  rename_i hc
  cases hp with
  |agg _ vs dt hh=>
   obtain⟨v,e1,e2⟩:=ot (P:=P) (w:=w) ⟨dt,hh⟩ h
   exact dG hs (by simp[Instr.index,asIntOf,run_underlying hu,hc,dX eo,e1]) e2
 ·cases h
end
end Go.Am
end
section
namespace Go.Am
open Go.RowKit
section
variable {P:Program} {G:bZ} {s s':St} {w:World} {bI:Env} {a:Act}
theorem mg(he:iX G bI a.tmps){x:Option Operand}{d l:Nat}(h:fZ bI x d=some l):
  (x=none/\l=d)\/ ∃k n,x.map a.eval=some (.int k n)/\0<=n/\n.toNat=l:=by
 unfold fZ at h
 split at h
 ·cases h;exact .inl ⟨rfl,rfl⟩
 ·rename_i o
  split at h
  ·rename_i k n ho
   split at h
   ·rename_i hn
    cases h
    have hv:=eB he ho
    generalize hq:a.eval o=v at hv
    cases hv
    exact .inr ⟨k,n,by simp[hq],hn,rfl⟩
   ·cases h
  ·cases h
theorem jq{k:IntKind}{n:Int}{y:Nat}{c:BoundsCode}(h0:0<=n)(hy:n.toNat<=y)(w:World):(Instr.sliceBound (.int k n) y c).run P w=.ok n.toNat w:=by
 have:n<=(y:Int):=by omega
 simp[Instr.sliceBound,asIntOf,h0,this]
theorem iN(he:iX G bI a.tmps){lo hi mx:Option Operand}{WY:Bool}{len cap l h m:Nat}(hl:fZ bI lo 0=some l)(hh:fZ bI hi len=some h)
  (hm:(mx=none/\m=cap)\/(mx.isSome=true/\hi.isSome=true/\fZ bI mx cap=some m)) (h1:l<=h) (h2:h<=m) (h3:m<=cap) (h4:mx=none->h<=cap):
  (Instr.sliceBounds WY len cap (lo.map a.eval) (hi.map a.eval) (mx.map a.eval)).run P w=.ok (l,h,m) w:=by
 unfold Instr.sliceBounds
 rcases hm with⟨rfl,rfl⟩|⟨m1,m2,m3⟩
 ·rcases mg he hl with⟨rfl,rfl⟩|⟨k1,n1,e1,p1,rfl⟩<;>rcases mg he hh with⟨rfl,rfl⟩|⟨k2,n2,e2,p2,rfl⟩
  ·simp
  ·simp[e2,jq p2 (h4 rfl)]
  ·simp[e1,jq p1 h1]
  ·simp[e1,e2,jq p1 h1,jq p2 (h4 rfl)]
 ·rcases mg he m3 with⟨rfl,_⟩|⟨k3,n3,e3,p3,rfl⟩
  ·cases m1
  ·rcases mg he hl with⟨rfl,rfl⟩|⟨k1,n1,e1,p1,rfl⟩<;>rcases mg he hh with⟨rfl,rfl⟩|⟨k2,n2,e2,p2,rfl⟩
   ·cases m2
   ·simp[e2,e3,jq p2 h2,jq p3 h3]
   ·cases m2
   ·simp[e1,e2,e3,jq p1 h1,jq p2 h2,jq p3 h3]
theorem gJ{elems:List AV}(n:Nat){x:AV}{cz:Nat}(dS: ∀e∈elems,e.cells.length=cz)(h0:0<cz){k l:Nat}(hx:(di ((elems.take n).drop l))[k]? =some x):
  (di elems)[l*cz+k]? =some x:=by
 have Yw: ∀e∈(elems.take n).drop l,e.cells.length=cz:=λe he=>dS e (w8 (GF he))
 obtain⟨e,he,hk⟩:=xa Yw h0 hx
 rw[J8,Te]at he
 split at he
 ·have:=og dS he _ _ hk
  rw[show(l+k / cz)*cz+k%cz=l*cz+k from by rw[uw,CC];congr 1;rw[QO];exact WD k cz]at this
  exact this
 ·cases he
theorem GN{e:TypeId}{elems:List AV}{cz:Nat}(hf: ∀y∈elems.head?,dl P e=some y.cells.length)(dS: ∀x∈elems,x.cells.length=cz)(eJ:elems≠[]):dl P e=some cz:=by
 cases elems with
 |nil=>exact absurd rfl eJ
 |cons x r=>rw[hf x (by simp),dS x (by simp)]
theorem C0(hs:eA G s w)(he:iX G bI a.tmps){t e:TypeId}{full GO:Bool}{elems:List AV}{pv:Value}(hp:V G (.sl full elems) pv)(hu:dU P t=some e)
  {lo hi mx:Option Operand} {l h:Nat} (hl:fZ bI lo 0=some l) (hh:fZ bI hi elems.length=some h) (h1:l<=h) (h2:h<=elems.length)
  (hf: ∀y∈elems.head?,dl P e=some y.cells.length) (eo:(dl P e).isSome=true)
  (hm:(mx=none/\GO=(full&&h==elems.length))\/ ∃m,mx.isSome=true/\hi.isSome=true/\(∀d,fZ bI mx d=some m)/\h<=m/\m<=elems.length/\GO=(m==h)):
  sN P G s w (Instr.sliceAt t pv (lo.map a.eval) (hi.map a.eval) (mx.map a.eval)) (.sl GO ((elems.take h).drop l)) s:=by
 obtain⟨bQ,cap,rfl,ep,jB,hb,hz⟩:=V.pJ hp
 obtain⟨m,ke,NE,hmc,pB⟩: ∃m,(Instr.sliceBounds true elems.length cap (lo.map a.eval) (hi.map a.eval) (mx.map a.eval)).run P w=.ok (l,h,m) w/\h<=m/\m<=cap/\(GO=true->m=h):=by
  rcases hm with⟨rfl,rfl⟩|⟨m,m1,m2,m3,m4,m5,rfl⟩
  ·refine⟨cap,iN he hl hh (.inl ⟨rfl,rfl⟩) h1 (by omega) (eu _) (λ_=>by omega),by omega,eu _,λe=>?_⟩
   simp only[eW,beq_iff_eq]at e
   rw[jB e.1,e.2]
  ·exact⟨m,iN he hl hh (.inr ⟨m1,m2,m3 _⟩) h1 m4 (by omega) (λe=>by subst e;cases m1),m4,by omega,λe=>by simpa using e⟩
 have dt:((elems.take h).drop l).length=h-l:=by simp;omega
 cases hq:dl P e with
 |none=>rw[hq]at eo;cases eo
 |some sz=>
  have run:(Instr.sliceAt t (.slice bQ elems.length cap) (lo.map a.eval) (hi.map a.eval) (mx.map a.eval)).run P w=
    .ok (.slice (if m=l then bQ else bQ.map (·.add (l*sz))) (h-l) (m-l)) w:=by
   simp[Instr.sliceAt,Instr.slice,run_underlying (fj hu),ke,dX hq]
  refine dG hs run ?_
  by_cases eJ:h=l
  ·subst eJ
   have:(elems.take h).drop h=[]:=JO (by omega)
   rw[this,PI]
   exact .slnil _ _ _ (λe=>by have:=pB e;omega) (λe=>by
    split at e
    ·omega
    ·cases bQ with
     |none=>have:=hb rfl;omega
     |some a=>cases e)
  ·rcases hz with rfl|⟨b,off,cz,val,rfl,dS,jg,gF,hV⟩
   ·simp at h2;omega
   ·have mE:elems≠[]:=λe=>by subst e;simp at h2;omega
    have zu:=GN hf dS mE
    rw[hq]at zu;cases zu
    rw[if_neg (by omega),<-dt]
    have h0:0<sz\/sz=0:=by omega
    simp only[gl,mV]
    refine .sl _ _ b _ sz _ (λk=>val (l*sz+k)) (by rw[dt];omega) (λe=>by rw[dt,pB e]) (λx hx=>dS x (w8 (GF hx)))
     (λx hx=>jg x (by
      rw[di,sL]at hx |-
      obtain⟨y,hy,hx⟩:=hx
      exact⟨y,w8 (GF hy),hx⟩)) (λk hk=>?_) λk x hx=>?_
    ·rw[CC]
     refine gF _ ?_
     rw[dt]at hk
     have:l*sz+(h-l)*sz<=elems.length*sz:=by rw[<-uw];exact zp _ (by omega)
     omega
    ·rcases h0 with h0|h0
     ·exact hV _ x (gJ h dS h0 hx)
     ·exfalso
      have:(di ((elems.take h).drop l)).length=0:=by
       rw[dy (cz:=sz) λx hx=>dS x (w8 (GF hx)),h0];simp
      rw[JO this]at hx
      simp at hx
theorem IG(hs:eA G s w)(he:iX G bI a.tmps){t:TypeId}{p x:AV}{pv:Value}{lo hi mx:Option Operand}(hp:V G p pv)(h:oi P t p bI lo hi mx s=some x):
  sN P G s w (Instr.sliceAt t pv (lo.map a.eval) (hi.map a.eval) (mx.map a.eval)) x s:=by
 unfold oi at h
 split at h
 ·rename_i b
  split at h
  case isFalse=>cases h
  rename_i hc
  split at h
  case h_2=>cases h
  rename_i l h' hl hh
  split at h
  case isFalse=>cases h
  rename_i Q4
  cases h
  cases hp
  obtain⟨hc1,hc2⟩:=hc
  cases mx with
  |some _=>cases hc2
  |none=>
   have hb:=iN (P:=P) (w:=w) (WY:=false) (cap:=b.size) he hl hh (.inl ⟨rfl,rfl⟩) Q4.1 Q4.2 (eu _) (λ_=>Q4.2)
   refine dG hs (v:=.string (b.extract l h')) ?_ (.str _)
   simp only[QP]at hb
   simp[Instr.sliceAt,Instr.slice,run_underlying (Bj hc1),hb]
 ·rename_i full elems
  split at h
  case h_2=>cases h
  rename_i e hu
  split at h
  ·rename_i l h' hl hh
   split at h
   case isFalse=>cases h
   rename_i hc
   cases h
   exact C0 hs he hp hu hl hh hc.1 hc.2.1 hc.2.2.1 hc.2.2.2 (.inl ⟨rfl,rfl⟩)
  ·rename_i l h' m0 hl hh
   split at h
   case h_2=>cases h
   rename_i m hm
   split at h
   case isFalse=>cases h
   rename_i hc
   cases h
   exact C0 hs he hp hu hl hh hc.1 (by omega) hc.2.2.2.2.1 hc.2.2.2.2.2 (.inr ⟨m,rfl,hc.2.2.2.1,λd=>by simpa[fZ]using hm,hc.2.1,hc.2.2.1,rfl⟩)
  ·cases h
 ·rename_i id bL len
  split at h
  case h_2=>cases h
  rename_i e hu
  split at h
  case h_2=>cases h
  rename_i cz elems hg
  have main: ∀{l h':Nat},fZ bI lo 0=some l->fZ bI hi len=some h'->l<=h'->h'<=len->dl P e=some cz->
    ((mx=none)\/ ∃m,mx.isSome=true/\hi.isSome=true/\(∀d,fZ bI mx d=some m)/\h'<=m/\m<=len)->
    sN P G s w (Instr.sliceAt t pv (lo.map a.eval) (hi.map a.eval) (mx.map a.eval)) (.ms id (bL+l) (h'-l)) s:=by
   intro l h' hl hh h1 h2 eo hm
   cases hp with
   |gn _ _ cap bQ hc=>
    subst hc
    obtain rfl:h'=0:=by omega
    obtain rfl:l=0:=by omega
    have ke:(Instr.sliceBounds true 0 0 (lo.map a.eval) (hi.map a.eval) (mx.map a.eval)).run P w=.ok (0,0,0) w:=by
     rcases hm with rfl|⟨m,m1,m2,m3,m4,m5⟩
     ·exact iN he hl hh (.inl ⟨rfl,rfl⟩) h1 (eu _) (eu _) (λ_=>eu _)
     ·obtain rfl:m=0:=by omega
      exact iN he hl hh (.inr ⟨m1,m2,m3 _⟩) h1 m4 (eu _) (λe=>by subst e;cases m1)
    exact dG hs (v:=.slice bQ 0 0) (by simp[Instr.sliceAt,Instr.slice,run_underlying (fj hu),ke,dX eo]) (.gn _ _ _ _ rfl)
   |ms _ _ _ cap r addr ho ep eP gm=>
    obtain⟨o,e2,e3⟩:=hs.at hg ho
    cases e3 with
    |cells _ _ cs ty s7 dS h0 iz jg CZ hV=>
     obtain⟨m,ke,NE,hmc⟩: ∃m,(Instr.sliceBounds true len cap (lo.map a.eval) (hi.map a.eval) (mx.map a.eval)).run P w=.ok (l,h',m) w/\h'<=m/\m<=cap:=by
      rcases hm with rfl|⟨m,m1,m2,m3,m4,m5⟩
      ·exact⟨cap,iN he hl hh (.inl ⟨rfl,rfl⟩) h1 (by omega) (eu _) (λ_=>by omega),by omega,eu _⟩
      ·exact⟨m,iN he hl hh (.inr ⟨m1,m2,m3 _⟩) h1 m4 (by omega) (λe=>by subst e;cases m1),m4,by omega⟩
     subst dS
     have run:(Instr.sliceAt t (.slice (some ⟨r.block,addr,none⟩) len cap) (lo.map a.eval) (hi.map a.eval) (mx.map a.eval)).run P w=
       .ok (.slice (some ⟨r.block,if m=l then addr else addr+l*r.cz,none⟩) (h'-l) (m-l)) w:=by
      simp[Instr.sliceAt,Instr.slice,run_underlying (fj hu),ke,dX eo,mV]
      split<;>rfl
     refine dG hs run (.ms _ _ _ _ r _ ho (by omega) ?_ λBn=>?_)
     ·refine vS ?_ eP
      exact QQ (zp _ (by omega)) _
     ·rw[if_neg (by omega),gm (by omega),uw,CC]
  split at h
  ·rename_i l h' hl hh
   split at h
   case isFalse=>cases h
   rename_i hc
   cases h
   exact main hl hh hc.1 hc.2.1 hc.2.2 (.inl rfl)
  ·rename_i l h' m0 hl hh
   split at h
   case h_2=>cases h
   rename_i m hm
   split at h
   case isFalse=>cases h
   rename_i hc
   cases h
   exact main hl hh hc.1 (by omega) hc.2.2.2.2 (.inr ⟨m,rfl,hc.2.2.2.1,λd=>by simpa[fZ]using hm,hc.2.1,hc.2.2.1⟩)
  ·cases h
 ·rename_i id bL len cap
  split at h
  case h_2=>cases h
  rename_i e hu
  split at h
  case h_2=>cases h
  rename_i cz elems hg
  split at h
  case h_2=>cases h
  rename_i l h' hl hh
  split at h
  case isFalse=>cases h
  rename_i hc
  obtain⟨h1,h2,eo⟩:=hc
  cases h
  cases hp with
  |mH _ _ bQ=>
   obtain rfl:h'=0:=by omega
   obtain rfl:l=0:=by omega
   have ke:=iN (P:=P) (w:=w) (WY:=true) (len:=0) (cap:=0) (mx:=none) he hl hh (.inl ⟨rfl,rfl⟩) h1 (eu _) (eu _) (λ_=>eu _)
   simp only[QP]at ke
   exact dG hs (v:=.slice bQ 0 0) (by simp[Instr.sliceAt,Instr.slice,run_underlying (fj hu),ke,dX eo]) (.mH _ _ _)
  |mc _ _ _ _ r addr ho ep eP gm=>
   obtain⟨o,e2,e3⟩:=hs.at hg ho
   cases e3 with
   |cells _ _ cs ty s7 dS h0 iz jg CZ hV=>
    have ke:=iN (P:=P) (w:=w) (WY:=true) (len:=len) (cap:=cap) (mx:=none) he hl hh (.inl ⟨rfl,rfl⟩) h1 h2 (eu _) (λ_=>h2)
    simp only[QP]at ke
    subst dS
    have run:(Instr.sliceAt t (.slice (some ⟨r.block,addr,none⟩) len cap) (lo.map a.eval) (hi.map a.eval) none).run P w=
      .ok (.slice (some ⟨r.block,if cap=l then addr else addr+l*r.cz,none⟩) (h'-l) (cap-l)) w:=by
     simp[Instr.sliceAt,Instr.slice,run_underlying (fj hu),ke,dX eo,mV]
     split<;>rfl
    refine dG hs run (.mc _ _ _ _ r _ ho (by omega) ?_ λBn=>?_)
    ·refine vS ?_ eP
     exact QQ (zp _ (by omega)) _
    ·rw[if_neg (by omega),gm (by omega),uw,CC]
 ·cases h
end
end Go.Am
end
section
namespace Go.Am
open Go.RowKit
section
variable {P:Program} {G:bZ} {s s':St} {w:World} {bI:Env} {a:Act}
theorem eA.move{w':World}(h:eA G s w){id:Nat}{blk rQ:gp}{r r':ux}{o:Obj}(hg:bH s.heap id=some blk)(ho:G.own id=some r)(hb:r'.block=r.block)
  (hs:w'.heap.size=w.heap.size) (Ym:w'.os=w.os) (ht:w'.tape=w.tape) (re:w'.output=w.output)
  (hk: ∀b,b≠r.block->w'.heap[b]? =w.heap[b]?) (hw:w'.heap[r.block]? =some o) (hh:Holds (G.put s.bS r') r' rQ o) (rB:blk≠ .gb) (NA:w.drawn<=w'.drawn:=by exact eu _):
  eA (G.put s.bS r') ⟨(s.bS,rQ)::eh s.heap id,s.bS+1⟩ w'/\Ext G s w (G.put s.bS r') ⟨(s.bS,rQ)::eh s.heap id,s.bS+1⟩ w':=by
 have ep:rC G (G.put s.bS r'):=.put (h.cq _ (eu _))
 have eJ:id≠s.bS:=λe=>by rw[h.cq id (by omega)]at ho;cases ho
 have jf: ∀i b,bH ((s.bS,rQ)::eh s.heap id) i=some b->(i=s.bS/\b=rQ)\/(i≠s.bS/\i≠id/\bH s.heap i=some b):=λi b hi=>by
  simp only[cR,cG]at hi
  split at hi
  ·cases hi;exact .inl ⟨by omega,rfl⟩
  ·rename_i h1
   rw[fw]at hi
   split at hi
   ·cases hi
   ·exact .inr ⟨by omega,by omega,hi⟩
 have gE: ∀i,i≠s.bS->(G.put s.bS r').own i=G.own i:=λi eJ=>by simp[bZ.put,eJ]
 have l8:(G.put s.bS r').own s.bS=some r':=by simp[bZ.put]
 refine⟨⟨?_,?_,?_,?_,?_,?_⟩,⟨ep,Ym,ht,re,by omega,?_,?_,?_,?_,by simp,?_,λi hl Ix=>by rw[gE i (by omega)];exact Ix,NA⟩⟩
 ·intro b i v hi
  have eJ:b≠r.block:=λe=>by subst e;have h2:=h.clear id _ r i hg ho;rw[show G.gD r.block i=some v from hi]at h2;cases h2
  have:=h.gD b i v hi
  rwa[World.cell?_of_block (w:=w) (hk b eJ)]
 ·intro i b hi
  rcases jf i b hi with⟨rfl,rfl⟩|⟨n1,n2,mT⟩
  ·exact .inl ⟨r',o,l8,by rw[hb];exact hw,hh⟩
  ·rcases h.heap i b mT with⟨r1,o1,e1,e2,e3⟩|⟨e1,e2⟩
   ·exact .inl ⟨r1,o1,by rw[gE _ n1];exact e1,by rw[hk _ (h.apart i id b _ r1 r mT hg e1 ho n2)];exact e2,e3.mono ep⟩
   ·exact .inr ⟨by rw[gE _ n1];exact e1,e2⟩
 ·intro i i' b b' r1 r2 h1 h2 o1 o2 mE
  rcases jf i b h1 with⟨rfl,rfl⟩|⟨n1,m1,g1⟩<;>rcases jf i' b' h2 with⟨rfl,rfl⟩|⟨n2,m2,g2⟩
  ·exact absurd rfl mE
  ·rw[l8]at o1;cases o1
   rw[gE _ n2]at o2
   rw[hb];exact h.apart id i' _ b' r r2 hg g2 ho o2 (λe=>m2 e.symm)
  ·rw[l8]at o2;cases o2
   rw[gE _ n1]at o1
   rw[hb];exact h.apart i id b _ r1 r g1 hg o1 ho m1
  ·rw[gE _ n1]at o1;rw[gE _ n2]at o2
   exact h.apart i i' b b' r1 r2 g1 g2 o1 o2 mE
 ·intro i b r1 j hi Ix
  rcases jf i b hi with⟨rfl,rfl⟩|⟨n1,m1,g1⟩
  ·rw[l8]at Ix;cases Ix
   rw[hb];exact h.clear id _ r j hg ho
  ·rw[gE _ n1]at Ix
   exact h.clear i b r1 j g1 Ix
 ·intro i hi
  rw[gE i (by simp at hi;omega)]
  exact h.cq i (by simp at hi;omega)
 ·intro i b hi
  show i<s.bS+1
  rcases jf i b hi with⟨rfl,rfl⟩|⟨n1,m1,g1⟩
  ·omega
  ·have:=h.lt i b g1;omega
 ·intro b mT hn
  exact hk b λe=>hn ⟨id,blk,r,hg,ho,e.symm⟩
 ·intro b o v hi;exact .inl hi
 ·intro i r1 hi
  simp only[bZ.put]at hi
  split at hi
  ·cases hi;exact .inr (.inr ⟨id,blk,r,hg,ho,hb.symm⟩)
  ·exact .inl hi
 ·intro i b hi
  rcases jf i b hi with⟨rfl,rfl⟩|⟨_,_,g⟩
  ·exact .inr (eu _)
  ·exact .inl ⟨_,g⟩
 ·intro i hi
  have h1:i≠s.bS:=λe=>by
   subst e
   have:=h.lt s.bS _ hi
   omega
  have h2:i≠id:=λe=>by subst e;rw[hg]at hi;cases hi;exact rB rfl
  simp only[cR,cG]
  rw[if_neg (λe=>h1 e.symm),fw,if_neg (λe=>h2 e.symm)]
  exact hi
theorem VL.append{xs ys:List AV}{vs us:Array Value}(h:VL G xs vs)(k:VL G ys us):VL G (xs++ys) (vs++us):=by
 refine⟨by simp[h.1,k.1],λi x y hx hy=>?_⟩
 by_cases hi:i<xs.length
 ·rw[nq hi]at hx
  rw[WI (by rw[<-h.1];exact hi)]at hy
  exact h.2 i x y hx hy
 ·rw[pn (by omega)]at hx
  rw[Array.getElem?_append_right (by rw[<-h.1];omega),<-h.1]at hy
  exact k.2 _ x y hx hy
theorem fx(hs:eA G s w){e:TypeId}{x:AV}{xv:Value}(hx:V G x xv){l:List AV}(hl:fG x s=some l){sz:Nat}(eo:dl P e=some sz)(hf:kE P e x s):
  (∀y∈l,y.cells.length=sz)/\(∀y∈di l,y.cS=true)/\(Builtin.lenOf xv).run P w=.ok l.length w/\
  ∀n,n<=l.length-> ∃vs,(∀w',(∀a,w'.cell? a=w.cell? a)->(Builtin.firstCells sz n xv).run P w'=.ok vs w')/\VL G (di (l.take n)) vs:=by
 have load: ∀(b o n:Nat)(cs:List AV),pI G w b o cs->n<=cs.length-> ∃vs,(∀w',(∀a,w'.cell? a=w.cell? a)->(loadCells ⟨b,o,none⟩ n).run P w'=.ok vs w')/\VL G (cs.take n) vs:=by
  intro b o n cs ht hn
  obtain⟨vs,e1,e2⟩:=ht.loadCells (P:=P) hn
  refine⟨vs,λw' hw=>?_,e2⟩
  have zf:pI G w' b o cs:=λk x hx=>by rw[hw];exact ht k x hx
  obtain⟨vs',Yx,Tp⟩:=zf.loadCells (P:=P) hn
  have:vs'=vs:=by
   have q: ∀w':World,(∀a,w'.cell? a=w.cell? a)->(loadCells ⟨b,o,none⟩ n).run P w'=.ok ((List.range n).map λj=>(w.cell? ⟨b,o+j,none⟩).getD undef).toArray w':=λw' hw=>by
    refine run_loadCells w' _ n _ λj hj=>?_
    rw[mV,hw]
    obtain⟨v,hv,_⟩:=ht j cs[j] (dC (by omega))
    simp[hv]
   rw[q w' hw]at Yx;rw[q w λ_=>rfl]at e1
   cases e1;cases Yx;rfl
  rw[Yx,this]
 unfold fG at hl
 split at hl
 ·rename_i full elems
  cases hl
  obtain⟨bQ,cap,rfl,ep,_,hb,hz⟩:=V.pJ hx
  rcases hz with rfl|⟨b,off,cz,val,rfl,dS,jg,gF,hV⟩
  ·refine⟨by simp,by simp[di],by simp[Builtin.lenOf],λn hn=>⟨#[],λw' _=>?_,by simp[di];exact⟨rfl,by simp⟩⟩⟩
   have:n=0:=by simpa using hn
   subst this
   cases bQ<;>simp[Builtin.firstCells,loadCells,loadCellsFrom]
  ·have iA: ∀y∈l,y.cells.length=sz:=λy hy=>by
    have:=GN (P:=P) hf dS (λe=>by subst e;cases hy)
    rw[eo]at this;cases this;exact dS y hy
   refine⟨iA,jg,by simp[Builtin.lenOf],λn hn=>?_⟩
   obtain⟨vs,e1,e2⟩:=load b off (n*sz) _ (IE hs dS gF hV) (by rw[dy iA];exact zp _ hn)
   refine⟨vs,λw' hw=>by simpa[Builtin.firstCells]using e1 w' hw,?_⟩
   have:(di l).take (n*sz)=di (l.take n):=by
    conv=>lhs;rw[<-PJ n l,dx]
    rw[WJ (by rw[dy (cz:=sz) λy hy=>iA y (w8 hy)];simp[Nv hn])]
    rw[rP (by rw[dy (cz:=sz) λy hy=>iA y (w8 hy)];simp[Nv hn])]
   rwa[this]at e2
 ·rename_i id bL len
  split at hl
  case h_2=>cases hl
  rename_i cz elems hg
  split at hl
  case isFalse=>cases hl
  rename_i eP
  cases hl
  have sR:dl P e=some cz:=by simpa[kE,hg]using hf
  rw[eo]at sR;cases sR
  cases hx with
  |gn _ _ cap bQ hc=>
   subst hc
   rw[QR]
   refine⟨by simp,by simp[di],by simp[Builtin.lenOf],λn hn=>?_⟩
   obtain rfl:n=0:=by simpa using hn
   refine⟨#[],λw' _=>?_,by simp[di];exact⟨rfl,by simp⟩⟩
   cases bQ<;>simp[Builtin.firstCells,loadCells,loadCellsFrom]
  |ms _ _ _ cap r addr ho ep N6 gm=>
   obtain⟨o,e2,e3⟩:=hs.at hg ho
   cases e3 with
   |cells _ _ cs ty s7 dS h0 iz jg CZ hV=>
    subst dS
    have dt:((elems.drop bL).take len).length=len:=by simp;omega
    have jZ: ∀y∈(elems.drop bL).take len,y∈elems:=λy hy=>GF (w8 hy)
    refine⟨λy hy=>iz y (jZ y hy),λx hx=>jg x (by
     rw[di,sL]at hx |-
     obtain⟨y,hy,hx⟩:=hx
     exact⟨y,jZ y hy,hx⟩),by simp[Builtin.lenOf];omega,λn hn=>?_⟩
    rw[dt]at hn
    rw[QS,Nv hn]
    by_cases Q3:n=0
    ·subst Q3
     exact⟨#[],λw' _=>by simp[Builtin.firstCells,loadCells,loadCellsFrom],by simp[di];exact⟨rfl,by simp⟩⟩
    ·have ht:pI G w r.block (r.bQ+bL*r.cz) (di (elems.drop bL)):=by
      intro k x hx
      have hd: ∀y∈elems.drop bL,y.cells.length=r.cz:=λy hy=>iz y (GF hy)
      have hk:(di elems)[bL*r.cz+k]? =some x:=by
       have h3:=gJ (n:=elems.length) (l:=bL) iz h0 (k:=k) (x:=x) (by rw[Bb];exact hx)
       exact h3
      obtain⟨v,q1,q2⟩:=hV _ x hk
      exact⟨v,by simp only[World.cell?,e2];rw[CC];simpa using q1,q2⟩
     have hd: ∀y∈elems.drop bL,y.cells.length=r.cz:=λy hy=>iz y (GF hy)
     obtain⟨vs,q1,q2⟩:=load r.block (r.bQ+bL*r.cz) (n*r.cz) _ ht (by rw[dy hd];exact zp _ (by simp;omega))
     refine⟨vs,λw' hw=>by rw[gm (by omega)];simpa[Builtin.firstCells]using q1 w' hw,?_⟩
     have zg: ∀y∈(elems.drop bL).take n,y.cells.length=r.cz:=λy hy=>hd y (w8 hy)
     have hln:((elems.drop bL).take n).length=n:=by simp;omega
     have:(di (elems.drop bL)).take (n*r.cz)=di ((elems.drop bL).take n):=by
      conv=>lhs;rw[<-PJ n (elems.drop bL),dx]
      rw[WJ (by rw[dy zg,hln];exact eu _)]
      rw[rP (by rw[dy zg,hln];exact eu _)]
     rwa[this]at q2
 ·cases hl
end
end Go.Am
end
