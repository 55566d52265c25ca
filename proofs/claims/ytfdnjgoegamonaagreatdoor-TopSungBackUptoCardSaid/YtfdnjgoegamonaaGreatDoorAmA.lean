/- The logic AM, A: abstract values and states; operations; moves; the rules; soundness of the first operations. -/
import Derived.Test.YtfdnjgoegamonaaGreatDoorPin
import Derived.RangeFuncLeaves
import Derived.OrdersIn
import Derived.Laws.Cells
import Derived.Laws.CopyRow
import Derived.Laws.World
import Derived.RowKit3
import Derived.Below
import Derived.Laws.Append
set_option linter.all false
section
namespace Go.Am
open Go.RowKit
inductive AV where
 |bool (b:Bool)
 |int (k:IntKind) (n:Int)
 |str (s:ByteArray)
 |iO
 |nG
 |sl (full:Bool) (elems:List AV)
 |ip (cells:List AV)
 |mp (id el off:Nat)
 |ms (id b9 len:Nat)
 |mc (id b9 len cap:Nat)
 |fn (f:FuncId) (gk:List AV)
 |lf (id:Nat)
 |agg (cells:List AV)
 |eC (vs:List AV)
 |any
 deriving Inhabited
abbrev AV.i(n:Int):AV:=.int .i64 n
def AV.cells:AV->List AV
 |.agg cs=>cs
 |v=>[v]
def AV.isAgg:AV->Bool
 |.agg _=>true
 |_=>false
def AV.dn:AV->Bool
 |.agg _|.eC _|.any=>false
 |_=>true
def dB(l:List AV):List AV:=l.flatMap AV.cells
structure ua where
 block:Nat
 cn:Nat
 cN:Nat
 size:Nat
structure cx where
 ir:Nat->Nat->Option Value
 own:Nat->Option ua
inductive V (G:cx):AV->Value->Prop
 |any (v:Value):V G .any v
 |bool (b:Bool):V G (.bool b) (.bool b)
 |int (k:IntKind) (n:Int):V G (.int k n) (.int k n)
 |str (s:ByteArray):V G (.str s) (.string s)
 |iO:V G .iO (.pointer none)
 |nG:V G .nG .nilFunc
 |slnil (full:Bool) (cn:Option Addr) (cap:Nat) (hf:full=true->cap=0) (hb:cn=none->cap=0):V G (.sl full []) (.slice cn 0 cap)
 |sl (full:Bool) (elems:List AV) (b off cN cap:Nat) (val:Nat->Value) (ko:elems.length<=cap) (kc:full=true->cap=elems.length)
  (eE: ∀e∈elems,e.cells.length=cN) (jH: ∀x∈dB elems,x.dn=true) (iw: ∀k,k<elems.length*cN->G.ir b (off+k)=some (val k))
  (hV: ∀k x,(dB elems)[k]? =some x->V G x (val k)):V G (.sl full elems) (.slice (some ⟨b,off,none⟩) elems.length cap)
 |ip (cells:List AV) (b off:Nat) (val:Nat->Value) (iw: ∀k,k<cells.length->G.ir b (off+k)=some (val k))
  (hV: ∀k x,cells[k]? =some x->V G x (val k)):V G (.ip cells) (.pointer (some ⟨b,off,none⟩))
 |mp (id el off:Nat) (r:ua) (h:G.own id=some r):V G (.mp id el off) (.pointer (some ⟨r.block,r.cn+el*r.cN+off,none⟩))
 |ms (id b9 len cap:Nat) (r:ua) (addr:Nat) (h:G.own id=some r) (eP:len<=cap) (fB:r.cn+(b9+cap)*r.cN<=r.size)
  (gY:0<cap->addr=r.cn+b9*r.cN):V G (.ms id b9 len) (.slice (some ⟨r.block,addr,none⟩) len cap)
 |ia (id b9 cap:Nat) (cn:Option Addr) (hc:cap=0):V G (.ms id b9 0) (.slice cn 0 cap)
 |mc (id b9 len cap:Nat) (r:ua) (addr:Nat) (h:G.own id=some r) (eP:len<=cap) (fB:r.cn+(b9+cap)*r.cN<=r.size)
  (gY:0<cap->addr=r.cn+b9*r.cN):V G (.mc id b9 len cap) (.slice (some ⟨r.block,addr,none⟩) len cap)
 |nI (id b9:Nat) (cn:Option Addr):V G (.mc id b9 0 0) (.slice cn 0 0)
 |fn (f:FuncId) (gk:List AV) (vs:Array Value) (dJ:gk.length=vs.size) (h: ∀(i:Nat)x y,gk[i]? =some x->vs[i]? =some y->V G x y):
  V G (.fn f gk) (.func (.func f) #[] vs)
 |lf (id:Nat) (r:ua) (h:G.own id=some r):V G (.lf id) (.func (.yield r.block) #[] #[])
 |agg (cs:List AV) (vs:Array Value) (dJ:cs.length=vs.size) (h: ∀(i:Nat)x y,cs[i]? =some x->vs[i]? =some y->V G x y):V G (.agg cs) (.agg vs)
 |eC (cs:List AV) (vs:Array Value) (dJ:cs.length=vs.size) (h: ∀(i:Nat)x y,cs[i]? =some x->vs[i]? =some y->V G x y):V G (.eC cs) (.tuple vs)
def VL(G:cx)(cs:List AV)(vs:Array Value):Prop:=cs.length=vs.size/\ ∀(i:Nat)x y,cs[i]? =some x->vs[i]? =some y->V G x y
structure sJ (G G':cx):Prop where
 ir: ∀b o v,G.ir b o=some v->G'.ir b o=some v
 own: ∀id r,G.own id=some r->G'.own id=some r
theorem sJ.refl(G:cx):sJ G G:=⟨λ_ _ _ h=>h,λ_ _ h=>h⟩
theorem sJ.trans{A B C:cx}(h:sJ A B)(k:sJ B C):sJ A C:=⟨λ_ _ _ x=>k.ir _ _ _ (h.ir _ _ _ x),λ_ _ x=>k.own _ _ (h.own _ _ x)⟩
theorem V.mono{G G':cx}(hG:sJ G G'){x:AV}{v:Value}(h:V G x v):V G' x v:=by
 induction h with
 |any v=>exact .any v
 |bool b=>exact .bool b
 |int k n=>exact .int k n
 |str s=>exact .str s
 |iO=>exact .iO
 |nG=>exact .nG
 |slnil full cn cap hf hb=>exact .slnil full cn cap hf hb
 |sl full elems b off cN cap val ko kc eE jH iw _ ih=>exact .sl full elems b off cN cap val ko kc eE jH (λk hk=>hG.ir _ _ _ (iw k hk)) ih
 |ip cells b off val iw _ ih=>exact .ip cells b off val (λk hk=>hG.ir _ _ _ (iw k hk)) ih
 |mp id el off r h=>exact .mp id el off r (hG.own _ _ h)
 |ms id b9 len cap r addr h eP fB ha=>exact .ms id b9 len cap r addr (hG.own _ _ h) eP fB ha
 |ia id b9 cap cn hc=>exact .ia id b9 cap cn hc
 |mc id b9 len cap r addr h eP fB ha=>exact .mc id b9 len cap r addr (hG.own _ _ h) eP fB ha
 |nI id b9 cn=>exact .nI id b9 cn
 |fn f gk vs dJ _ ih=>exact .fn f gk vs dJ ih
 |lf id r h=>exact .lf id r (hG.own _ _ h)
 |agg cs vs dJ _ ih=>exact .agg cs vs dJ ih
 |eC cs vs dJ _ ih=>exact .eC cs vs dJ ih
theorem VL.mono{G G':cx}(hG:sJ G G'){cs:List AV}{vs:Array Value}(h:VL G cs vs):VL G' cs vs:=⟨h.1,λi x y hx hy=>(h.2 i x y hx hy).mono hG⟩
abbrev Env:=List (Nat×AV)
def bJ{β:Type}:List (Nat×β)->Nat->Option β
 | [],_=>none
 |(k,x)::r,i=>bif Nat.beq k i then some x else bJ r i
def eF{β:Type}:List (Nat×β)->Nat->β->List (Nat×β)
 | [],i,x=>[(i,x)]
 |(k,y)::r,i,x=>bif Nat.beq k i then(i,x)::r else(k,y)::eF r i x
theorem LA{α:Type}(k i:Nat)(x y:α):(bif Nat.beq k i then x else y)=if k=i then x else y:=by
 by_cases h:k=i
 ·subst h;rw[dP rfl,show Nat.beq k k=true from O0 k];rfl
 ·rw[dY h];have:Nat.beq k i=false:=by
   cases hb:Nat.beq k i with
   |false=>rfl
   |true=>exact absurd (jn hb) h
  rw[this];rfl
theorem di{β:Type}(i:Nat):bJ ([]:List (Nat×β)) i=none:=rfl
theorem cZ{β:Type}(k:Nat)(x:β)(r:List (Nat×β))(i:Nat):bJ ((k,x)::r) i=if k=i then some x else bJ r i:=LA k i _ _
theorem LB{β:Type}(i:Nat)(x:β):eF [] i x=[(i,x)]:=rfl
theorem ub{β:Type}(k:Nat)(y:β)(r:List (Nat×β))(i:Nat)(x:β):eF ((k,y)::r) i x=if k=i then(i,x)::r else(k,y)::eF r i x:=LA k i _ _
def eN{β:Type}:List (Nat×β)->Nat->List (Nat×β)
 | [],_=>[]
 |(k,y)::r,i=>if k=i then eN r i else(k,y)::eN r i
theorem ff{β:Type}(l:List (Nat×β))(i j:Nat)(x:β):bJ (eF l i x) j=if i=j then some x else bJ l j:=by
 induction l with
 |nil=>simp[LB,ub,di,cZ]
 |cons a r ih=>
  obtain⟨k,y⟩:=a;simp only[LB,ub,di,cZ];split
  ·rename_i h;subst h;simp only[di,cZ];split<;>rfl
  ·rename_i h;simp only[di,cZ,ih];split
   ·rename_i h2;subst h2;rw[dY (by omega)]
   ·rfl
theorem fU{β:Type}(l:List (Nat×β))(i j:Nat):bJ (eN l i) j=if i=j then none else bJ l j:=by
 induction l with
 |nil=>simp[eN,di,cZ]
 |cons a r ih=>
  obtain⟨k,y⟩:=a;simp only[eN];split
  ·rename_i h;subst h;simp only[di,cZ,ih];split<;>rfl
  ·rename_i h;simp only[di,cZ,ih];split
   ·rename_i h2;subst h2;rw[dY (by omega)]
   ·rfl
structure wA where
 bX:Env
 ntmps:Nat
 params:List Tmp
 assign:Code
 body:Code
 state:LoopState
 pending:Option Code
inductive gU where
 |cells (cN:Nat) (elems:List AV)
 |loop (l:wA)
 |gK
structure St where
 heap:List (Nat×gU)
 cr:Nat
def jx(G:cx)(bX:Env)(tmps:Array Value):Prop:= ∀t x,bJ bX t=some x->t<tmps.size/\V G x (tmps.getD t undef)
theorem jx.mono{G G':cx}(hG:sJ G G'){bX:Env}{tmps:Array Value}(h:jx G bX tmps):jx G' bX tmps:=λt x hx=>⟨(h t x hx).1,(h t x hx).2.mono hG⟩
inductive Holds (G:cx) (r:ua):gU->Obj->Prop
 |cells (cN:Nat) (elems:List AV) (cs:Array Value) (e:TypeId) (eG:cs.size=r.size) (eE:r.cN=cN) (h0:0<cN)
  (ja: ∀x∈elems,x.cells.length=cN) (jH: ∀x∈dB elems,x.dn=true) (fB:r.cn+elems.length*cN<=r.size)
  (hV: ∀k x,(dB elems)[k]? =some x-> ∃v,cs[r.cn+k]? =some v/\V G x v):Holds G r (.cells cN elems) (.cells cs e (0,0))
 |loop (l:wA) (fn:FuncId) (tmps:Array Value) (d:Nat) (eG:tmps.size=l.ntmps) (hV:jx G l.bX tmps):
  Holds G r (.loop l) (.loop {state:=l.state,pending:=l.pending,fn:=fn,tmps:=tmps,params:=l.params.toArray,assign:=l.assign,body:=l.body,defers:=d})
 |gK:Holds G r .gK (.deferred (some []))
theorem Holds.mono{G G':cx}(hG:sJ G G'){r:ua}{b:gU}{o:Obj}(h:Holds G r b o):Holds G' r b o:=by
 cases h with
 |cells cN elems cs e eG eE h0 ja jH fB hV=>exact .cells cN elems cs e eG eE h0 ja jH fB λk x hx=>let⟨v,a,b⟩:=hV k x hx;⟨v,a,b.mono hG⟩
 |loop l fn tmps d eG hV=>exact .loop l fn tmps d eG (hV.mono hG)
 |gK=>exact .gK
def mE(G:cx)(s:St)(b:Nat):Prop:= ∃id blk r,bJ s.heap id=some blk/\G.own id=some r/\r.block=b
structure eQ (G:cx) (s:St) (w:World):Prop where
 kS:(∀b o v,G.ir b o=some v->w.cell? ⟨b,o,none⟩=some v)/\Gv G.ir
 heap: ∀id blk,bJ s.heap id=some blk->(∃r o,G.own id=some r/\w.heap[r.block]? =some o/\Holds G r blk o)\/(G.own id=none/\ ∃cN,0<cN/\blk=.cells cN [])
 apart: ∀id fL blk sX r r',bJ s.heap id=some blk->bJ s.heap fL=some sX->G.own id=some r->G.own fL=some r'->id≠fL->r.block≠r'.block
 clear: ∀id blk r o,bJ s.heap id=some blk->G.own id=some r->G.ir r.block o=none
 cE: ∀id,s.cr<=id->G.own id=none
 lt: ∀id blk,bJ s.heap id=some blk->id<s.cr
theorem eQ.ir{G:cx}{s:St}{w:World}(h:eQ G s w): ∀b o v,G.ir b o=some v->w.cell? ⟨b,o,none⟩=some v:=h.kS.1
theorem eQ.at{G:cx}{s:St}{w:World}(h:eQ G s w){id:Nat}{blk:gU}{r:ua}(hg:bJ s.heap id=some blk)(ho:G.own id=some r): ∃o,w.heap[r.block]? =some o/\Holds G r blk o:=by
 rcases h.heap id blk hg with⟨r',o,e1,e2,e3⟩|⟨e,_⟩
 ·rw[ho]at e1;cases e1;exact⟨o,e2,e3⟩
 ·rw[ho]at e;cases e
structure Ext (G:cx) (s:St) (w:World) (G':cx) (s':St) (w':World):Prop where
 le:sJ G G'
 os:w'.os=w.os
 tape:w'.tape=w.tape
 output:w'.output=w.output
 size:w.heap.size<=w'.heap.size
 keep: ∀b,b<w.heap.size-> ¬mE G s b->w'.heap[b]? =w.heap[b]?
 jJ: ∀b o v,G'.ir b o=some v->G.ir b o=some v\/w.heap.size<=b\/mE G s b
 jj: ∀id r,G'.own id=some r->G.own id=some r\/(w.heap.size<=r.block\/mE G s r.block)
 ids: ∀id blk,bJ s'.heap id=some blk->(∃SC,bJ s.heap id=some SC)\/s.cr<=id
 cr:s.cr<=s'.cr
 gK: ∀id,bJ s.heap id=some .gK->bJ s'.heap id=some .gK
 stay: ∀id,id<s.cr->G.own id=none->G'.own id=none
 drawn:w.drawn<=w'.drawn
theorem Ext.refl(G:cx)(s:St)(w:World):Ext G s w G s w:=
 ⟨.refl G,rfl,rfl,rfl,eD _,λ_ _ _=>rfl,λ_ _ _ h=>.inl h,λ_ _ h=>.inl h,λ_ _ h=>.inl ⟨_,h⟩,eD _,λ_ h=>h,λ_ _ h=>h,eD _⟩
theorem Ext.trans{G0 G1 G2:cx}{s0 s1 s2:St}{w0 w1 w2:World}(h0:eQ G0 s0 w0)(a:Ext G0 s0 w0 G1 s1 w1)(b:Ext G1 s1 w1 G2 s2 w2):
  Ext G0 s0 w0 G2 s2 w2:=by
 have own: ∀x,mE G1 s1 x->w0.heap.size<=x\/mE G0 s0 x:=by
  rintro x ⟨id,blk,r,hg,ho,rfl⟩;rcases a.jj id r ho with h|h
  ·rcases a.ids id blk hg with⟨SC,hb⟩|JS
   ·exact .inr ⟨id,SC,r,hb,h,rfl⟩
   ·rw[h0.cE id JS]at h;cases h
  ·exact h
 refine⟨a.le.trans b.le,b.os.trans a.os,b.tape.trans a.tape,b.output.trans a.output,xz a.size b.size,?_,?_,?_,?_,xz a.cr b.cr,λid h=>b.gK id (a.gK id h),λid hl h=>b.stay id (Sr hl a.cr) (a.stay id hl h),xz a.drawn b.drawn⟩
 ·intro x hx hn;rw[b.keep x (Sr hx a.size) (λh=>(own x h).elim (λh=>by omega) hn)];exact a.keep x hx hn
 ·intro x o v h;rcases b.jJ x o v h with h|h|h
  ·exact a.jJ x o v h
  ·exact .inr (.inl (xz a.size h))
  ·exact .inr (own x h)
 ·intro id r h;rcases b.jj id r h with h|h|h
  ·exact a.jj id r h
  ·exact .inr (.inl (xz a.size h))
  ·exact .inr (own _ h)
 ·intro id blk h;rcases b.ids id blk h with⟨ZY,h⟩|h
  ·exact a.ids id ZY h
  ·exact .inr (xz a.cr h)
end Go.Am
end
section
namespace Go.Am
open Go.RowKit
theorem Ci{w:World}{b o:Nat}{v:Value}(h:w.cell? ⟨b,o,none⟩=some v):b<w.heap.size:=by
 unfold World.cell? at h;split at h
 ·rename_i hb;exact(Rc.1 hb).1
 ·cases h
theorem eQ.pB{G:cx}{s:St}{w:World}(h:eQ G s w){b o:Nat}{v:Value}(hi:G.ir b o=some v):b<w.heap.size:=Ci (h.ir _ _ _ hi)
theorem eQ.jy{G:cx}{s:St}{w:World}(h:eQ G s w){id:Nat}{blk:gU}{r:ua}(hg:bJ s.heap id=some blk)(ho:G.own id=some r):r.block<w.heap.size:=by
 obtain⟨o,e2,_⟩:=h.at hg ho;exact(Rc.1 e2).1
theorem rA{w:World}{o:Obj}{b i:Nat}(hb:b<w.heap.size):(w.alloc o).cell? ⟨b,i,none⟩=w.cell? ⟨b,i,none⟩:=World.cell?_alloc_lt w o _ hb
def cx.put(G:cx)(id:Nat)(r:ua):cx:={ir:=G.ir,own:=λi=>if i=id then some r else G.own i}
theorem sJ.put{G:cx}{id:Nat}{r:ua}(h:G.own id=none):sJ G (G.put id r):=
 ⟨λ_ _ _ h=>h,λi r' hi=>by
  simp only[cx.put];split
  ·subst_vars;rw[h]at hi;cases hi
  ·exact hi⟩
theorem eQ.put{G:cx}{s:St}{w:World}(h:eQ G s w){o:Obj}{blk:gU}{r:ua}(hr:r.block=w.heap.size)(hh:Holds (G.put s.cr r) r blk o):
  eQ (G.put s.cr r) ⟨(s.cr,blk)::s.heap,s.cr+1⟩ (w.alloc o)/\Ext G s w (G.put s.cr r) ⟨(s.cr,blk)::s.heap,s.cr+1⟩ (w.alloc o):=by
 have eP:sJ G (G.put s.cr r):=.put (h.cE _ (eD _));have qq: ∀id b,bJ s.heap id=some b->id≠s.cr:=λid b hg e=>by
  have:=h.lt id b hg;omega
 have jF: ∀id b,bJ ((s.cr,blk)::s.heap) id=some b->(id=s.cr/\b=blk)\/(id≠s.cr/\bJ s.heap id=some b):=λid b hg=>by
  simp only[di,cZ]at hg;split at hg
  ·cases hg;exact .inl ⟨by omega,rfl⟩
  ·exact .inr ⟨by omega,hg⟩
 have iu: ∀id,id≠s.cr->(G.put s.cr r).own id=G.own id:=λid eU=>by simp[cx.put,eU]
 have nb:(G.put s.cr r).own s.cr=some r:=by simp[cx.put]
 refine⟨⟨?_,?_,?_,?_,?_,?_⟩,⟨eP,rfl,rfl,rfl,by simp,?_,?_,?_,?_,by simp,λid hg=>by simp only[di,cZ];rw[dY (λe=>qq id _ hg e.symm)];exact hg,λid hl ho=>by rw[iu id (by omega)];exact ho,eD _⟩⟩
 ·refine⟨λb i v hi=>?_,h.kS.2⟩;have hb:=h.pB hi;rw[rA hb];exact h.ir b i v hi
 ·intro id b hg;rcases jF id b hg with⟨rfl,rfl⟩|⟨eU,hg⟩
  ·exact .inl ⟨r,o,nb,by rw[hr];show(w.heap.push o)[w.heap.size]? =some o;simp,hh⟩
  ·rcases h.heap id b hg with⟨r',o',e1,e2,e3⟩|⟨e1,e2⟩
   ·have gl:=h.jy hg e1;exact .inl ⟨r',o',by rw[iu id eU];exact e1,by rw[Below.heap_alloc _ _ _ gl];exact e2,e3.mono eP⟩
   ·exact .inr ⟨by rw[iu id eU];exact e1,e2⟩
 ·intro id fL b b' r1 r2 h1 h2 o1 o2 eU;rcases jF id b h1 with⟨rfl,rfl⟩|⟨n1,g1⟩<;>rcases jF fL b' h2 with⟨rfl,rfl⟩|⟨n2,g2⟩
  ·exact absurd rfl eU
  ·rw[nb]at o1;cases o1;rw[iu _ n2]at o2;have:=h.jy g2 o2;omega
  ·rw[nb]at o2;cases o2;rw[iu _ n1]at o1;have:=h.jy g1 o1;omega
  ·rw[iu _ n1]at o1;rw[iu _ n2]at o2;exact h.apart id fL b b' r1 r2 g1 g2 o1 o2 eU
 ·intro id b r1 i hg ho;rcases jF id b hg with⟨rfl,rfl⟩|⟨n1,g1⟩
  ·rw[nb]at ho;cases ho;cases hi:G.ir r.block i with
   |none=>exact hi
   |some v=>have:=h.pB hi;omega
  ·rw[iu _ n1]at ho;exact h.clear id b r1 i g1 ho
 ·intro id hid;rw[iu id (by simp at hid;omega)];exact h.cE id (by simp at hid;omega)
 ·intro id b hg;show id<s.cr+1;rcases jF id b hg with⟨rfl,rfl⟩|⟨eU,hg⟩
  ·omega
  ·have:=h.lt id b hg;omega
 ·intro b hb _;exact Below.heap_alloc _ _ _ hb
 ·intro b i v hi;exact .inl hi
 ·intro id r' hi;simp only[cx.put]at hi;split at hi
  ·cases hi;exact .inr (.inl (by omega))
  ·exact .inl hi
 ·intro id b hg;rcases jF id b hg with⟨rfl,rfl⟩|⟨_,g⟩
  ·exact .inr (eD _)
  ·exact .inl ⟨_,g⟩
theorem eQ.drop{G:cx}{s s':St}{w:World}(h:eQ G s w)(hh: ∀id b,bJ s'.heap id=some b->bJ s.heap id=some b)(hc:s.cr<=s'.cr):eQ G s' w:=
 ⟨h.kS,λid b hg=>h.heap id b (hh id b hg),λid fL b b' r r' h1 h2=>h.apart id fL b b' r r' (hh _ _ h1) (hh _ _ h2),λid b r o hg=>h.clear id b r o (hh _ _ hg),λid hid=>h.cE id (by omega),λid b hg=>Sr (h.lt id b (hh id b hg)) hc⟩
theorem Ext.drop{G:cx}{s s':St}{w:World}(hh: ∀id b,bJ s'.heap id=some b->bJ s.heap id=some b)(hc:s.cr<=s'.cr)
  (hd: ∀id,bJ s.heap id=some .gK->bJ s'.heap id=some .gK):Ext G s w G s' w:=
 {Ext.refl G s w with ids:=λid b hg=>.inl ⟨b,hh id b hg⟩,cr:=hc,gK:=hd}
theorem eQ.drew{G:cx}{s:St}{w:World}(h:eQ G s w):eQ G s w.drew:=⟨h.kS,h.heap,h.apart,h.clear,h.cE,h.lt⟩
theorem Ext.drew(G:cx)(s:St)(w:World):Ext G s w G s w.drew:={Ext.refl G s w with keep:=λ_ _ _=>rfl,size:=eD _,drawn:=Nat.le_succ _}
def cx.gM(G:cx)(b:Nat)(cs:Array Value):cx:={ir:=λb' o=>if b'=b then cs[o]? else G.ir b' o,own:=G.own}
theorem sJ.gM{G:cx}{b:Nat}{cs:Array Value}(h: ∀o v,G.ir b o=some v->cs[o]? =some v):sJ G (G.gM b cs):=
 ⟨λb' o v hi=>by
  simp only[cx.gM];split
  ·subst_vars;exact h o v hi
  ·exact hi,λ_ _ h=>h⟩
theorem eQ.LC{G:cx}{s:St}{w:World}(h:eQ G s w)(cs:Array Value)(t:TypeId):
  eQ (G.gM w.heap.size cs) s (w.alloc (.cells cs t))/\Ext G s w (G.gM w.heap.size cs) s (w.alloc (.cells cs t)):=by
 have hn: ∀o v,G.ir w.heap.size o=some v->cs[o]? =some v:=λo v hi=>by have:=h.pB hi;omega
 have eP:sJ G (G.gM w.heap.size cs):=.gM hn;refine⟨⟨?_,?_,?_,?_,?_,h.lt⟩,⟨eP,rfl,rfl,rfl,by simp,?_,?_,?_,?_,eD _,λ_ h=>h,λ_ _ h=>h,eD _⟩⟩
 ·refine⟨λb o v hi=>?_,.mono eP.ir h.kS.2⟩;simp only[cx.gM]at hi;split at hi
  ·subst_vars;rw[World.cell?_alloc_new];exact hi
  ·have hb:=h.pB hi;rw[rA hb];exact h.ir b o v hi
 ·intro id b hg;rcases h.heap id b hg with⟨r',o',e1,e2,e3⟩|e
  ·have gl:=h.jy hg e1;exact .inl ⟨r',o',e1,by rw[Below.heap_alloc _ _ _ gl];exact e2,e3.mono eP⟩
  ·exact .inr e
 ·exact h.apart
 ·intro id b r o hg ho;have gl:=h.jy hg ho;simp only[cx.gM];split
  ·omega
  ·exact h.clear id b r o hg ho
 ·exact h.cE
 ·intro b hb _;exact Below.heap_alloc _ _ _ hb
 ·intro b o v hi;simp only[cx.gM]at hi;split at hi
  ·exact .inr (.inl (by omega))
  ·exact .inl hi
 ·intro id r hi;exact .inl hi
 ·intro id b hg;exact .inl ⟨b,hg⟩
theorem eQ.freeze{G:cx}{s:St}{w:World}(h:eQ G s w){id cN:Nat}{elems:List AV}{r:ua}{cs:Array Value}{e:TypeId}(hg:bJ s.heap id=some (.cells cN elems))
  (ho:G.own id=some r) (hw:w.heap[r.block]? =some (.cells cs e (0,0))):
  eQ (G.gM r.block cs) ⟨eN s.heap id,s.cr⟩ w/\Ext G s w (G.gM r.block cs) ⟨eN s.heap id,s.cr⟩ w:=by
 have eP:sJ G (G.gM r.block cs):=.gM λo v hi=>by rw[h.clear id _ r o hg ho]at hi;cases hi
 have gd: ∀i b,bJ (eN s.heap id) i=some b->i≠id/\bJ s.heap i=some b:=λi b hi=>by
  rw[fU]at hi;split at hi
  ·cases hi
  ·exact⟨by omega,hi⟩
 refine⟨⟨?_,?_,?_,?_,?_,λi b hi=>h.lt i b (gd i b hi).2⟩,⟨eP,rfl,rfl,rfl,eD _,λ_ _ _=>rfl,?_,?_,?_,eD _,λi hi=>by rw[fU,dY (λe=>by subst e;rw[hg]at hi;cases hi)];exact hi,λ_ _ h=>h,eD _⟩⟩
 ·refine⟨λb o v hi=>?_,.mono eP.ir h.kS.2⟩;simp only[cx.gM]at hi;split at hi
  ·subst_vars;simp[World.cell?,hw,hi]
  ·exact h.ir b o v hi
 ·intro i b hi;rcases h.heap i b (gd i b hi).2 with⟨r',o',e1,e2,e3⟩|e
  ·exact .inl ⟨r',o',e1,e2,e3.mono eP⟩
  ·exact .inr e
 ·intro i i' b b' r1 r2 h1 h2;exact h.apart i i' b b' r1 r2 (gd _ _ h1).2 (gd _ _ h2).2
 ·intro i b r1 o hi qo;simp only[cx.gM];split
  ·rename_i hb;exact absurd hb (h.apart i id b _ r1 r (gd i b hi).2 hg qo ho (gd i b hi).1)
  ·exact h.clear i b r1 o (gd i b hi).2 qo
 ·exact h.cE
 ·intro b o v hi;simp only[cx.gM]at hi;split at hi
  ·exact .inr (.inr ⟨id,_,r,hg,ho,by omega⟩)
  ·exact .inl hi
 ·intro i r' hi;exact .inl hi
 ·intro i b hi;exact .inl ⟨b,(gd i b hi).2⟩
theorem eQ.turn{G:cx}{s:St}{w w':World}(h:eQ G s w){id:Nat}{blk sX:gU}{r:ua}{o:Obj}(hg:bJ s.heap id=some blk)(ho:G.own id=some r)
  (hs:w'.heap.size=w.heap.size) (ZZ:w'.os=w.os) (ht:w'.tape=w.tape) (sC:w'.output=w.output)
  (hk: ∀b,b≠r.block->w'.heap[b]? =w.heap[b]?) (hw:w'.heap[r.block]? =some o) (hh:Holds G r sX o) (sK:blk≠ .gK) (Pa:w.drawn<=w'.drawn:=by exact eD _):
  eQ G ⟨eF s.heap id sX,s.cr⟩ w'/\Ext G s w G ⟨eF s.heap id sX,s.cr⟩ w':=by
 have gs: ∀i b,bJ (eF s.heap id sX) i=some b->(i=id/\b=sX)\/(i≠id/\bJ s.heap i=some b):=λi b hi=>by
  rw[ff]at hi;split at hi
  ·cases hi;exact .inl ⟨by omega,rfl⟩
  ·exact .inr ⟨by omega,hi⟩
 have Pb: ∀i b,bJ (eF s.heap id sX) i=some b-> ∃b0,bJ s.heap i=some b0:=λi b hi=>by
  rcases gs i b hi with⟨rfl,_⟩|⟨_,hb⟩
  ·exact⟨_,hg⟩
  ·exact⟨_,hb⟩
 refine⟨⟨?_,?_,?_,?_,?_,λi b hi=>let⟨b0,D7⟩:=Pb i b hi;h.lt i b0 D7⟩,⟨.refl G,ZZ,ht,sC,by omega,?_,?_,?_,?_,eD _,λi hi=>by rw[ff,dY (λe=>by subst e;rw[hg]at hi;cases hi;exact sK rfl)];exact hi,λ_ _ h=>h,Pa⟩⟩
 ·refine⟨λb i v hi=>?_,h.kS.2⟩;have eU:b≠r.block:=λe=>by subst e;rw[h.clear id _ r i hg ho]at hi;cases hi
  have:=h.ir b i v hi;rwa[World.cell?_of_block (w:=w) (hk b eU)]
 ·intro i b hi;rcases gs i b hi with⟨rfl,rfl⟩|⟨eU,hb⟩
  ·exact .inl ⟨r,o,ho,hw,hh⟩
  ·rcases h.heap i b hb with⟨r',o',e1,e2,e3⟩|e
   ·exact .inl ⟨r',o',e1,by rw[hk _ (h.apart i id b _ r' r hb hg e1 ho eU)];exact e2,e3⟩
   ·exact .inr e
 ·intro i i' b b' r1 r2 h1 h2 o1 o2 eU;obtain⟨b1,g1⟩:=Pb i b h1;obtain⟨b2,g2⟩:=Pb i' b' h2;exact h.apart i i' b1 b2 r1 r2 g1 g2 o1 o2 eU
 ·intro i b r1 j hi qo;obtain⟨b1,g1⟩:=Pb i b hi;exact h.clear i b1 r1 j g1 qo
 ·exact h.cE
 ·intro b hb hn;exact hk b λe=>hn ⟨id,blk,r,hg,ho,e.symm⟩
 ·intro b o v hi;exact .inl hi
 ·intro i r' hi;exact .inl hi
 ·intro i b hi;exact .inl (Pb i b hi)
theorem LD:dB []=[]:=rfl
theorem ju(x:AV)(l:List AV):dB (x::l)=x.cells++dB l:=by simp[dB]
theorem dN(a b:List AV):dB (a++b)=dB a++dB b:=by simp[dB]
theorem dO{cN:Nat}{l:List AV}(h: ∀e∈l,e.cells.length=cN):(dB l).length=l.length*cN:=by
 induction l with
 |nil=>simp[dB]
 |cons x r ih=>
  rw[ju,lu,h x (by simp),ih λe he=>h e (by simp[he]),oC,vm];omega
theorem pC{cN:Nat}{l:List AV}(h: ∀e∈l,e.cells.length=cN){i:Nat}{e:AV}(he:l[i]? =some e)(j:Nat)(x:AV)(hx:e.cells[j]? =some x):
  (dB l)[i*cN+j]? =some x:=by
 induction l generalizing i with
 |nil=>simp at he
 |cons y r ih=>
  rw[ju];cases i with
  |zero=>
   simp at he;subst he;have:j<y.cells.length:=(fT.1 hx).1;rw[VU,Cd,nD this];exact hx
  |succ i=>
   have hy:=h y (by simp);rw[qb (by rw[hy,vm];omega),hy];have:=ih (λe he=>h e (by simp[he])) (i:=i) (by simpa using he);rw[show(i+1)*cN+j-cN=i*cN+j from by rw[vm];omega];exact this
theorem yi{cN:Nat}{l:List AV}(h: ∀e∈l,e.cells.length=cN)(h0:0<cN){k:Nat}{x:AV}(hx:(dB l)[k]? =some x):
  ∃e,l[k / cN]? =some e/\e.cells[k%cN]? =some x:=by
 have hk:k<l.length*cN:=by rw[<-dO h];exact(fT.1 hx).1
 have hd:k / cN<l.length:=Nat.div_lt_of_lt_mul (by rw[Ss];exact hk);have he:l[k / cN]? =some l[k / cN]:=dR hd;have hm:k%cN<(l[k / cN]).cells.length:=by rw[h _ (JN hd)];exact Nat.mod_lt _ h0
 have h2:=pC h he (k%cN) _ (dR hm);rw[Ss,Yj]at h2;rw[hx]at h2;exact⟨_,he,by rw[dR hm,h2]⟩
theorem VL.cells{G:cx}{x:AV}{v:Value}(h:V G x v)(hx:x≠ .any):VL G x.cells v.cells:=by
 have one: ∀{x:AV}{v:Value},V G x v->x.cells=[x]->v.cells= #[v]->VL G x.cells v.cells:=λ{x v}h hx hv=>by
  rw[hx,hv];refine⟨rfl,λi a b ha hb=>?_⟩;cases i with
  |zero=>simp at ha hb;subst ha;subst hb;exact h
  |succ i=>simp at ha
 cases h with
 |any=>exact absurd rfl hx
 |agg cs vs dJ h=>exact⟨dJ,h⟩
 |bool b=>exact one (.bool b) rfl rfl
 |int k n=>exact one (.int k n) rfl rfl
 |str s=>exact one (.str s) rfl rfl
 |iO=>exact one .iO rfl rfl
 |nG=>exact one .nG rfl rfl
 |slnil full cn cap hf hb=>exact one (.slnil full cn cap hf hb) rfl rfl
 |sl full elems b off cN cap val ko kc eE jH iw hV=>exact one (.sl full elems b off cN cap val ko kc eE jH iw hV) rfl rfl
 |ip cells b off val iw hV=>exact one (.ip cells b off val iw hV) rfl rfl
 |mp id el off r h=>exact one (.mp id el off r h) rfl rfl
 |ms id b9 len cap r addr h eP fB ha=>exact one (.ms id b9 len cap r addr h eP fB ha) rfl rfl
 |ia id b9 cap cn hc=>exact one (.ia id b9 cap cn hc) rfl rfl
 |mc id b9 len cap r addr h eP fB ha=>exact one (.mc id b9 len cap r addr h eP fB ha) rfl rfl
 |nI id b9 cn=>exact one (.nI id b9 cn) rfl rfl
 |fn f gk vs dJ h=>exact one (.fn f gk vs dJ h) rfl rfl
 |lf id r h=>exact one (.lf id r h) rfl rfl
 |eC cs vs dJ h=>exact one (.eC cs vs dJ h) rfl rfl
theorem VL.get{G:cx}{cs:List AV}{vs:Array Value}(h:VL G cs vs){k:Nat}{x:AV}(hx:cs[k]? =some x): ∃v,vs[k]? =some v/\V G x v:=by
 have hk:k<vs.size:=by rw[<-h.1];exact(fT.1 hx).1
 exact⟨vs[k],Lj hk,h.2 k x _ hx (Lj hk)⟩
end Go.Am
end
section
namespace Go.Am
open Go.RowKit
def yl:Value->Option AV
 |.bool b=>some (.bool b)
 |.int k n=>some (.int k n)
 |.string s=>some (.str s)
 |.pointer none=>some .iO
 |.nilFunc=>some .nG
 |.slice none 0 0=>some (.sl true [])
 |_=>none
def uc:List Value->Option (List AV)
 | []=>some []
 |v::r=>match yl v,uc r with
  |some x,some l=>some (x::l)
  |_,_=>none
def ofValue:Value->Option AV
 |.agg cs=>match uc cs.toList with
  |some l=>some (.agg l)
  |none=>none
 |v=>yl v
def dF(P:Program)(t:TypeId):Option Nat:=(P.info? t).map (·.size)
def pD(P:Program)(t:TypeId):Option Nat:=(P.info? t).map (·.bytes)
def LF(P:Program)(t:TypeId):Option Bool:=(P.underlying t).map λ|.struct _|.array _ _=>true|_=>false
def jK(P:Program)(t:TypeId):Option AV:=match(P.info? t).map (·.zero)with
 |some (some v)=>ofValue v
 |_=>none
def eH(P:Program)(t:TypeId):Option TypeId:=match P.underlying t with
 |some (.slice e)=>some e
 |_=>none
def vv(P:Program)(t:TypeId):Option (Nat×TypeId):=match P.underlying t with
 |some (.array n e)=>some (n,e)
 |_=>none
def V6(P:Program)(t:TypeId):Bool:=match vv P t with
 |some (m,e)=>Nat.blt 8 (m*(dF P e).getD 1)
 |none=>false
def wB(P:Program)(t:TypeId):Option AV:=bif V6 P t then none else jK P t
theorem Cj{P:Program}{t:TypeId}{z:AV}(h:wB P t=some z):jK P t=some z:=by
 unfold wB at h;cases hb:V6 P t<;>rw[hb]at h
 ·exact h
 ·cases h
def xc(P:Program)(t:TypeId):Bool:=match P.underlying t with
 |some .string=>true
 |_=>false
def Gw(P:Program)(t:TypeId):Option IntKind:=match P.underlying t with
 |some (.int k)=>some k
 |_=>none
def nV(P:Program)(t:TypeId)(i:Nat):Option (Nat×Nat):=match P.underlying t with
 |some (.struct fs)=>match fs[i]? with
  |some f=>match dF P f.type with
   |some n=>some (f.offset,n)
   |none=>none
  |none=>none
 |_=>none
def xE(P:Program)(t:TypeId):Bool:=match P.underlying t with
 |some (.struct fs)=>fs.toList.all λf=>(dF P f.type).isSome
 |_=>false
def Ck(P:Program)(t:TypeId)(i:Nat):Option TypeId:=match P.underlying t with
 |some (.struct fs)=>(fs[i]?).map (·.type)
 |_=>none
def oper(bX:Env):Operand->Option AV
 |.tmp t=>bJ bX t
 |.const v=>ofValue v
 |.func f=>some (.fn f [])
 |.global _=>none
def opers(bX:Env):List Operand->Option (List AV)
 | []=>some []
 |x::r=>match oper bX x,opers bX r with
  |some v,some l=>some (v::l)
  |_,_=>none
def nJ(s:St):AV->Option (List AV)
 |.mp id el off=>match bJ s.heap id with
  |some (.cells _ elems)=>match elems[el]? with
   |some e=>some (e.cells.drop off)
   |none=>none
  |_=>none
 |.ip cells=>some cells
 |_=>none
def qs(P:Program)(t:TypeId)(cs:List AV):Option AV:=
 match LF P t with
 |some true=>match dF P t with
  |some n=>if n<=cs.length then some (.agg (cs.take n))else none
  |none=>none
 |some false=>match cs with
  |x::_=>some x
  | []=>none
 |none=>none
def qd(P:Program)(t:TypeId)(p:AV)(s:St):Option AV:=
 match nJ s p with
 |some cs=>qs P t cs
 |none=>none
def jL(cs:List AV)(off:Nat)(new:List AV):List AV:=cs.take off++(new++cs.drop (off+new.length))
def qt(e:AV)(cs:List AV):AV:=match e with
 |.agg _=>.agg cs
 |_=>match cs with
  |x::_=>x
  | []=>.any
def ym(P:Program)(t:TypeId)(p v:AV)(s:St):Option St:=
 match p with
 |.mp id el off=>match bJ s.heap id with
  |some (.cells cN elems)=>match elems[el]? with
   |some e=>if dF P t=some v.cells.length/\off+v.cells.length<=e.cells.length/\v.cells.all AV.dn=true then
     some ⟨eF s.heap id (.cells cN (elems.set el (qt e (jL e.cells off v.cells)))),s.cr⟩
    else none
   |none=>none
  |_=>none
 |_=>none
def Cm(v:AV)(s:St):Option (AV×St):=
 if 0<v.cells.length/\v.cells.all AV.dn=true then some (.mp s.cr 0 0,⟨(s.cr,.cells v.cells.length [v])::s.heap,s.cr+1⟩)else none
def chunk(n:Nat):Nat->List AV->List AV
 |0,_=>[]
 |k+1,l=>(bif Nat.beq n 1 then l.headD .any else .agg (l.take n))::chunk n k (l.drop n)
def D8(P:Program)(t:TypeId)(v:AV)(s:St):Option (AV×St):=match vv P t with
 |some (m,e)=>match dF P e with
  |some n=>bif Nat.blt 0 m&&(Nat.blt 0 n&&(Nat.beq v.cells.length (m*n)&&v.cells.all AV.dn))then some (.mp s.cr 0 0,⟨(s.cr,.cells n (chunk n m v.cells))::s.heap,s.cr+1⟩)else none
  |none=>none
 |none=>none
def yn(P:Program)(t:TypeId)(p:AV)(i:Nat):Option AV:=
 match nV P t i with
 |some (off,n)=>if n=0 then none else match p with
  |.mp id el o=>some (.mp id el (o+off))
  |.ip cells=>some (.ip (cells.drop off))
  |_=>none
 |none=>none
def LG(P:Program)(t:TypeId)(x:AV)(off:Nat):Option AV:=match x with
 |.agg cs=>qs P t (cs.drop off)
 |_=>none
def ud(P:Program)(t:TypeId)(x:AV)(i:Nat):Option AV:=
 match nV P t i,Ck P t i with
 |some (off,_),some ft=>LG P ft x off
 |_,_=>none
def fy(P:Program)(t:TypeId)(x:AV)(i:AV)(s:St):Option AV:=
 match i with
 |.int _ n=>match eH P t with
  |some e=>match x with
   |.sl _ elems=>if 0<=n then match elems[n.toNat]? with
     |some y=>if dF P e=some y.cells.length then some (.ip y.cells)else none
     |none=>none
    else none
   |.ms id b9 len=>match bJ s.heap id with
    |some (.cells cN _)=>if 0<=n/\n<len/\dF P e=some cN then some (.mp id (b9+n.toNat) 0)else none
    |_=>none
   |_=>none
  |none=>match vv P t with
   |some (m,e)=>match dF P e with
    |some sz=>if 0<=n/\n<m then match x with
      |.mp id el off=>bif Nat.blt 8 (m*sz)then(match bJ s.heap id with
       |some (.cells cN _)=>if cN=sz/\off=0 then some (.mp id (el+n.toNat) 0)else none
       |_=>none)else some (.mp id el (off+n.toNat*sz))
      |.ip cells=>some (.ip (cells.drop (n.toNat*sz)))
      |_=>none
     else none
    |none=>none
   |none=>none
 |_=>none
def sY(P:Program)(t:TypeId)(x:AV)(i:AV):Option AV:=
 match i with
 |.int _ n=>match x with
  |.str b=>if xc P t=true/\0<=n then match b[n.toNat]? with
    |some c=>some (.int .u8 c.toNat)
    |none=>none
   else none
  |.agg cs=>match vv P t with
   |some (m,e)=>match dF P e with
    |some sz=>if 0<=n/\n<m then qs P e (cs.drop (n.toNat*sz))else none
    |none=>none
   |none=>none
  |_=>none
 |_=>none
def gN(bX:Env)(x:Option Operand)(d:Nat):Option Nat:=match x with
 |none=>some d
 |some o=>match oper bX o with
  |some (.int _ n)=>if 0<=n then some n.toNat else none
  |_=>none
def nf(P:Program)(t:TypeId)(x:AV)(bX:Env)(lo hi mx:Option Operand)(s:St):Option AV:=
 match x with
 |.str b=>if xc P t=true/\mx.isNone=true then match gN bX lo 0,gN bX hi b.size with
   |some l,some h=>if l<=h/\h<=b.size then some (.str (b.extract l h))else none
   |_,_=>none
  else none
 |.sl full elems=>match eH P t with
  |some e=>match gN bX lo 0,gN bX hi elems.length,mx with
   |some l,some h,none=>if l<=h/\h<=elems.length/\(∀y∈elems.head?,dF P e=some y.cells.length)/\(dF P e).isSome=true then
     some (.sl (full&&h==elems.length) ((elems.take h).drop l))else none
   |some l,some h,some m=>match gN bX (some m) 0 with
    |some m=>if l<=h/\h<=m/\m<=elems.length/\hi.isSome=true/\(∀y∈elems.head?,dF P e=some y.cells.length)/\(dF P e).isSome=true then
      some (.sl (m==h) ((elems.take h).drop l))else none
    |none=>none
   |_,_,_=>none
  |none=>none
 |.ms id b9 len=>match eH P t with
  |some e=>match bJ s.heap id with
   |some (.cells cN _)=>match gN bX lo 0,gN bX hi len,mx with
    |some l,some h,none=>if l<=h/\h<=len/\dF P e=some cN then some (.ms id (b9+l) (h-l))else none
    |some l,some h,some m=>match gN bX (some m) 0 with
     |some m=>if l<=h/\h<=m/\m<=len/\hi.isSome=true/\dF P e=some cN then some (.ms id (b9+l) (h-l))else none
     |none=>none
    |_,_,_=>none
   |_=>none
  |none=>none
 |.mc id b9 len cap=>match eH P t with
  |some e=>match bJ s.heap id with
   |some (.cells cN _)=>match gN bX lo 0,gN bX hi len,mx with
    |some l,some h,none=>if l<=h/\h<=cap/\dF P e=some cN then some (.mc id (b9+l) (h-l) (cap-l))else none
    |_,_,_=>none
   |_=>none
  |none=>none
 |_=>none
def gh(x:AV)(s:St):Option (List AV):=match x with
 |.sl _ elems=>some elems
 |.ms id b9 len=>match bJ s.heap id with
  |some (.cells _ elems)=>if b9+len<=elems.length then some ((elems.drop b9).take len)else none
  |_=>none
 |_=>none
def fits(P:Program)(e:TypeId)(l:List AV):Prop:= ∀y∈l.head?,dF P e=some y.cells.length
instance (P:Program) (e:TypeId) (l:List AV):Decidable (fits P e l):=by unfold fits;exact inferInstance
def lx(P:Program)(e:TypeId)(x:AV)(s:St):Prop:=match x with
 |.sl _ elems=>fits P e elems
 |.ms id _ _=>match bJ s.heap id with
  |some (.cells cN _)=>dF P e=some cN
  |_=>False
 |_=>False
instance (P:Program) (e:TypeId) (x:AV) (s:St):Decidable (lx P e x s):=by
 unfold lx;split
 ·exact inferInstance
 ·split<;>exact inferInstance
 ·exact inferInstance
def bQ:Nat:=4294967296
def vw(P:Program)(e:TypeId)(sz:Nat):Bool:=match jK P e with
 |some z=>z.cells.length==sz&&z.cells.all AV.dn
 |none=>false
def gr(P:Program)(t:TypeId)(x:AV)(new:List AV)(s:St):Option (AV×St):=
 match eH P t with
 |some e=>match dF P e,pD P e with
  |some sz,some Gx=>if 0<sz/\Gx<=4096/\vw P e sz=true then
    match x with
    |.sl full elems=>if new=[]then some (.sl full elems,s)else
     if full=true/\elems.length+new.length<=bQ/\fits P e elems then
      some (.ms s.cr 0 (elems.length+new.length),⟨(s.cr,.cells sz (elems++new))::s.heap,s.cr+1⟩)else none
    |.ms id b9 len=>if new=[]then some (.ms id b9 len,s)else
     match bJ s.heap id with
     |some (.cells cN elems)=>if cN=sz/\b9+len<=elems.length/\len+new.length<=bQ then
       some (.ms s.cr 0 (len+new.length),⟨(s.cr,.cells sz ((elems.drop b9).take len++new))::eN s.heap id,s.cr+1⟩)else none
     |_=>none
    |.mc id b9 len cap=>match bJ s.heap id with
     |some (.cells cN elems)=>if new≠[]/\cN=sz/\b9+len<=elems.length/\cap<len+new.length/\len+new.length<=bQ then
       some (.ms s.cr 0 (len+new.length),⟨(s.cr,.cells sz ((elems.drop b9).take len++new))::s.heap,s.cr+1⟩)else none
     |_=>none
    |_=>none
   else none
  |_,_=>none
 |none=>none
def yo(P:Program)(t:TypeId)(x:AV)(new:List AV)(s:St):Option (AV×St):=
 match eH P t with
 |some e=>match x with
  |.ms id b9 len=>match bJ s.heap id with
   |some (.cells cN elems)=>if dF P e=some cN/\b9+len<=elems.length then
    let n:=min new.length len
    some (.int .i64 n,⟨eF s.heap id (.cells cN (elems.take b9++(new.take n++elems.drop (b9+n)))),s.cr⟩)else none
   |_=>none
  |.mc id b9 len _=>match bJ s.heap id with
   |some (.cells cN elems)=>if dF P e=some cN/\b9<=elems.length then
    let n:=min new.length len
    some (.int .i64 n,⟨eF s.heap id (.cells cN (elems.take b9++(new.take n++elems.drop (b9+n)))),s.cr⟩)else none
   |_=>none
  |.sl _ elems=>if min new.length elems.length=0/\(dF P e).isSome=true then some (.int .i64 0,s)else none
  |_=>none
 |none=>none
def V7:AV->Option Nat
 |.sl _ l=>some l.length
 |.ms _ _ n=>some n
 |.mc _ _ n _=>some n
 |_=>none
def Cn(P:Program)(t:TypeId)(x:AV)(id b9 len:Nat)(s:St):Option (AV×St):=
 match eH P t,bJ s.heap id,V7 x with
 |some e,some (.cells cN elems),some n=>if dF P e=some cN/\b9+min len n<=elems.length then yo P t x ((elems.drop b9).take (min len n)) s else none
 |_,_,_=>none
def SD(P:Program)(t:TypeId)(x:AV):Option AV:=match x with
 |.mc _ _ _ cap=>if(eH P t).isSome=true then some (.int .i64 cap)else none
 |.sl true elems=>if(eH P t).isSome=true then some (.int .i64 elems.length)else none
 |_=>none
def Gy(P:Program)(t:TypeId)(x:AV)(s:St):Option (AV×St):=match eH P t,x with
 |some e,.ms id b9 len=>match bJ s.heap id,jK P e with
  |some (.cells cN elems),some z=>if dF P e=some cN/\z.cells.length=cN/\z.cells.all AV.dn=true/\b9+len<=elems.length then
   some (.eC [],⟨eF s.heap id (.cells cN (elems.take b9++(List.replicate len z++elems.drop (b9+len)))),s.cr⟩)else none
  |_,_=>none
 |_,_=>none
def AP(P:Program)(t:TypeId)(x:AV):Option AV:=match x with
 |.mc _ _ len _=>if(eH P t).isSome=true then some (.int .i64 len)else none
 |.sl _ elems=>if(eH P t).isSome=true then some (.int .i64 elems.length)else none
 |.ms _ _ len=>if(eH P t).isSome=true then some (.int .i64 len)else none
 |.str b=>if xc P t=true then some (.int .i64 b.size)else none
 |_=>match vv P t with
  |some (n,_)=>some (.int .i64 n)
  |none=>none
def D9(P:Program)(t:TypeId)(l c:AV)(s:St):Option (AV×St):=
 match l,c,eH P t with
 |.int _ n,.int _ m,some e=>match dF P e,pD P e,jK P e with
  |some sz,some Gx,some z=>if 0<=n/\n<=m/\m<=bQ/\0<sz/\z.cells.length=sz/\z.cells.all AV.dn=true/\Gx<=4096 then
   some (.ms s.cr 0 n.toNat,⟨(s.cr,.cells sz (List.replicate n.toNat z))::s.heap,s.cr+1⟩)else none
  |_,_,_=>none
 |_,_,_=>none
def yp(op:BinOp)(k:IntKind)(x y:Int):Option AV:=match op with
 |.add=>some (.int k (k.wrap (x+y)))
 |.sub=>some (.int k (k.wrap (x-y)))
 |.mul=>some (.int k (k.wrap (x*y)))
 |.quo=>if y=0 then none else some (.int k (k.wrap (x.tdiv y)))
 |.rem=>if y=0 then none else some (.int k (x.tmod y))
 |.eql=>some (.bool (decide (x=y)))
 |.neq=>some (.bool (decide (x≠y)))
 |.lss=>some (.bool (decide (x<y)))
 |.leq=>some (.bool (decide (x<=y)))
 |.gtr=>some (.bool (decide (y<x)))
 |.geq=>some (.bool (decide (y<=x)))
 |.shl=>if y<0 then none else some (.int k (k.wrap (x*2^(min y.toNat k.bits))))
 |.shr=>if y<0 then none else some (.int k (x.fdiv (2^(min y.toNat k.bits))))
 |.and|.or|.xor|.andNot=>none
def rB(P:Program)(eq:TypeId->AV->AV->Option Bool)(xs ys:List AV):List Field->Option Bool
 | []=>some true
 | f :: fs => if f.name = "_" then none else
  match qs P f.type (xs.drop f.offset),qs P f.type (ys.drop f.offset)with
  |some a,some b=>match eq f.type a b,rB P eq xs ys fs with
   |some r,some r'=>some (r&&r')
   |_,_=>none
  |_,_=>none
def Pc(P:Program):Nat->TypeId->AV->AV->Option Bool
 |0,_,_,_=>none
 |d+1,t,x,y=>
  match P.underlying t,x,y with
  |some .bool,.bool a,.bool b=>some (a==b)
  |some (.int _),.int k a,.int k' b=>if k=k' then some (decide (a=b))else none
  |some .string,.str a,.str b=>some (a.toList==b.toList)
  |some (.pointer _),.iO,.iO=>some true
  |some (.pointer _),.iO,.mp _ _ _=>some false
  |some (.pointer _),.mp _ _ _,.iO=>some false
  |some (.func _ _ _),.nG,.nG=>some true
  |some (.func _ _ _),.nG,.fn _ _=>some false
  |some (.func _ _ _),.fn _ _,.nG=>some false
  |some (.struct fs),.agg xs,.agg ys=>if P.stoodInHeld t=true then none else rB P (Pc P d) xs ys fs.toList
  |_,_,_=>none
def Gz(P:Program)(op:BinOp)(t:TypeId)(x y:AV):Option AV:=
 match x,y with
 |.int k a,.int k' b=>match op with
  |.shl|.shr=>yp op k a b
  |_=>if k=k' then yp op k a b else none
 |.str a,.str b=>match op with
  |.add=>if a.size+b.size<=maxLen then some (.str (a++b))else none
  |.eql=>some (.bool (a.toList==b.toList))
  |.neq=>some (.bool !(a.toList==b.toList))
  |.lss=>some (.bool (Op.bytesLess a.toList b.toList))
  |.geq=>some (.bool !(Op.bytesLess a.toList b.toList))
  |.leq=>some (.bool (Op.bytesLess a.toList b.toList||a.toList==b.toList))
  |.gtr=>some (.bool !(Op.bytesLess a.toList b.toList||a.toList==b.toList))
  |_=>none
 |x,y=>if P.eqGuardType P.depth t=true then none else match op with
  |.eql=>match Pc P 8 t x y with
   |some b=>some (.bool b)
   |none=>none
  |.neq=>match Pc P 8 t x y with
   |some b=>some (.bool !b)
   |none=>none
  |_=>none
def Z0(op:UnOp)(x:AV):Option AV:=match op,x with
 |.not,.bool b=>some (.bool !b)
 |.neg,.int k n=>some (.int k (k.wrap (0-n)))
 |_,_=>none
def oK(P:Program)(src dst:TypeId)(x:AV):Option AV:=match x with
 |.int _ n=>if(P.underlying src).isSome=true then match Gw P dst with
   |some k=>some (.int k (k.wrap n))
   |none=>none
  else none
 |.str b=>if(P.underlying src).isSome=true/\xc P dst=true then some (.str b)else none
 |_=>none
def sL(cp:Nat->Option (Nat×Nat))(cells:List AV):List (Nat×AV)->Option (List AV)
 | []=>some cells
 |(i,v)::r=>match cp i with
  |some (off,n)=>if v.cells.length=n/\v.cells.all AV.dn=true/\off+n<=cells.length then sL cp (jL cells off v.cells) r else none
  |none=>none
def my(bX:Env):List (Nat×Operand)->Option (List (Nat×AV))
 | []=>some []
 |(i,x)::r=>match oper bX x,my bX r with
  |some v,some l=>some ((i,v)::l)
  |_,_=>none
def yq(P:Program)(t:TypeId)(cR:List (Nat×AV)):Option AV:=
 match jK P t with
 |some (.agg cs)=>if xE P t=true then match sL (nV P t) cs cR with
   |some l=>some (.agg l)
   |none=>none
  else match vv P t with
  |some (_,e)=>match dF P e with
   |some sz=>match sL (λi=>some (i*sz,sz)) cs cR with
    |some l=>some (.agg l)
    |none=>none
   |none=>none
  |none=>none
 |_=>none
def oL(l:List (Nat×AV))(i:Nat):Bool:=match l with
 | []=>true
 |(j,_)::r=>j==i&&oL r (i+1)
def gw(P:Program)(t:TypeId)(len:Nat)(cR:List (Nat×AV)):Option AV:=
 match eH P t with
 |some e=>match dF P e,jK P e with
  |some sz,some z=>if cR.length=len/\oL cR 0=true/\(∀p∈cR,p.2.cells.length=sz/\p.2.cells.all AV.dn=true)/\len*sz<=16777216/\0<sz/\z.cells.length=sz then
   some (.sl true (cR.map (·.2)))else none
  |_,_=>none
 |none=>none
def Py:AV->AV->Option AV
 |.int k x,.int k' y=>if k=k' then some (.int k (if y<x then y else x))else none
 |_,_=>none
def Pz:AV->AV->Option AV
 |.int k x,.int k' y=>if k=k' then some (.int k (if x<y then y else x))else none
 |_,_=>none
def wC(f:AV->AV->Option AV):AV->List AV->Option AV
 |x,[]=>some x
 |x,y::r=>match f x y with
  |some z=>wC f z r
  |none=>none
def gE(v:Option AV)(s:St):Option (AV×St):=match v with
 |some v=>some (v,s)
 |none=>none
def jc(P:Program)(op:Op)(bX:Env)(s:St):Option (AV×St):=
 match op with
 |.move x|.assign x=>gE (oper bX x) s
 |.pick c a b=>match oper bX c with
  |some (.bool t)=>if t then gE (oper bX a) s else gE (oper bX b) s
  |_=>none
 |.alloc t=>match wB P t with
  |some z=>Cm z s
  |none=>match jK P t with
   |some z=>D8 P t z s
   |none=>none
 |.box _ x=>match oper bX x with
  |some v=>Cm v s
  |none=>none
 |.build t cR=>match my bX cR.toList with
  |some l=>gE (yq P t l) s
  |none=>none
 |.buildSlice t len cR=>match my bX cR.toList with
  |some l=>gE (gw P t len l) s
  |none=>none
 |.load t p=>match oper bX p with
  |some p=>gE (qd P t p s) s
  |none=>none
 |.store t p x=>match oper bX p,oper bX x with
  |some p,some x=>match ym P t p x s with
   |some s'=>some (.any,s')
   |none=>none
  |_,_=>none
 |.nilCheck x=>match oper bX x with
  |some (.mp id el off)=>some (.mp id el off,s)
  |some (.ip cells)=>some (.ip cells,s)
  |some (.fn f gk)=>some (.fn f gk,s)
  |_=>none
 |.binOp op t x y _=>match oper bX x,oper bX y with
  |some x,some y=>gE (Gz P op t x y) s
  |_,_=>none
 |.unOp op _ x=>match oper bX x with
  |some x=>gE (Z0 op x) s
  |none=>none
 |.convert src dst x=>match oper bX x with
  |some x=>gE (oK P src dst x) s
  |none=>none
 |.makeFunc (.func f) first gk=>if first.size=0 then match opers bX gk.toList with
   |some l=>some (.fn f l,s)
   |none=>none
  else none
 |.slice t x lo hi mx=>match oper bX x with
  |some x=>gE (nf P t x bX lo hi mx s) s
  |none=>none
 |.fieldAddr t x i=>match oper bX x with
  |some x=>gE (yn P t x i) s
  |none=>none
 |.field t x i=>match oper bX x with
  |some x=>gE (ud P t x i) s
  |none=>none
 |.indexAddr t x i=>match oper bX x,oper bX i with
  |some x,some i=>gE (fy P t x i s) s
  |_,_=>none
 |.index t x i=>match oper bX x,oper bX i with
  |some x,some i=>gE (sY P t x i) s
  |_,_=>none
 |.extract x i=>match oper bX x with
  |some (.eC vs)=>gE vs[i]? s
  |_=>none
 |.makeSlice t l c=>match oper bX l,oper bX c with
  |some l,some c=>D9 P t l c s
  |_,_=>none
 |.call c=>match c.callee with
  |.builtin .len=>match opers bX c.args.toList,c.argTypes[0]? with
   |some [x],some t=>gE (AP P t x) s
   |_,_=>none
  |.builtin .append=>match opers bX c.args.toList,c.argTypes[0]?,c.argTypes[1]? with
   |some [x,y],some t,some u=>match y with
    |.int _ n=>match eH P t with
     |some e=>match jK P e with
      |some z=>if 0<=n/\n<=bQ/\(Gw P u).isSome=true/\dF P e=some z.cells.length/\z.cells.all AV.dn=true then gr P t x (List.replicate n.toNat z) s else none
      |none=>none
     |none=>none
    |y=>match eH P t,gh y s with
     |some e,some new=>if lx P e y s/\(eH P u).isSome=true then gr P t x new s else none
     |_,_=>none
   |_,_,_=>none
  |.builtin .copy=>match opers bX c.args.toList,c.argTypes[0]? with
   |some [x,y],some t=>match y with
    |.mc id b9 len _=>Cn P t x id b9 len s
    |y=>match eH P t,gh y s with
     |some e,some new=>if lx P e y s then yo P t x new s else none
     |_,_=>none
   |_,_=>none
  |.builtin .cap=>match opers bX c.args.toList,c.argTypes[0]? with
   |some [x],some t=>gE (SD P t x) s
   |_,_=>none
  |.builtin .clear=>match opers bX c.args.toList,c.argTypes[0]? with
   |some [x],some t=>Gy P t x s
   |_,_=>none
  |.builtin .min=>match opers bX c.args.toList with
   |some (x::r)=>gE (wC Py x r) s
   |_=>none
  |.builtin .max=>match opers bX c.args.toList with
   |some (x::r)=>gE (wC Pz x r) s
   |_=>none
  |_=>none
 |_=>none
end Go.Am
end
section
namespace Go.Am
open Go.RowKit
def vx(o:Option Nat):Fence:={Fence.wide with round:=o}
def xd(G:cx)(ρ:Option Nat):Option Nat:=match ρ with
 |none=>none
 |some id=>(G.own id).map (·.block)
theorem qu{o:Option Nat}{n:Nat}{P:Program}{f:FuncId}{args:Array Value}{w:World}{R:Ending->World->Prop}(h:Calls P f args w R):CallsIn (vx o) n P f args w R:=
 have h':CallsIn Fence.wide n P f args w R:=callsIn_wide.2 h
 h'
def xe(G:cx)(s:St)(w:World)(Q:AV->St->Prop)(e:Ending)(w':World):Prop:=
 ∃v G' x s',e=.returned v/\V G' x v/\eQ G' s' w'/\Ext G s w G' s' w'/\Q x s'
theorem xe.mono{G:cx}{s:St}{w:World}{Q Q':AV->St->Prop}{e:Ending}{w':World}(h:xe G s w Q e w')(hq: ∀x s',Q x s'->Q' x s'):xe G s w Q' e w':=
 let⟨v,G',x,s',a,b,c,d,q⟩:=h;⟨v,G',x,s',a,b,c,d,hq _ _ q⟩
def dQ(P:Program)(f:FuncId)(args:List AV)(s:St)(Q:AV->St->Prop):Prop:=
 ∀G w vs,eQ G s w->VL G args vs->Calls P f vs w (xe G s w Q)
theorem dQ.mono{P:Program}{f:FuncId}{args:List AV}{s:St}{Q Q':AV->St->Prop}(h:dQ P f args s Q)(hq: ∀x s',Q x s'->Q' x s'):dQ P f args s Q':=
 λG w vs hs hv=>(h G w vs hs hv).mono λ_ _ hg=>hg.mono hq
def jk(P:Program)(id:Nat)(args:List AV)(s:St)(Q:AV->St->Prop):Prop:=
 ∀o G w r vs,eQ G s w->G.own id=some r->VL G args vs-> ∃fn tmps assign body,(Instr.yield r.block vs).run P w=.ok (.round r.block fn tmps assign body) w/\
  RoundIn (vx o) 0 P r.block fn tmps assign body w (xe G s w Q)
theorem jk.mono{P:Program}{f:FuncId}{args:List AV}{s:St}{Q Q':AV->St->Prop}(h:jk P f args s Q)(hq: ∀x s',Q x s'->Q' x s'):jk P f args s Q':=
 λo G w r vs hs hr hv=>let⟨fn,tmps,assign,body,h1,h2⟩:=h o G w r vs hs hr hv;⟨fn,tmps,assign,body,h1,h2.mono λ_ _ hg=>hg.mono hq⟩
def pE(G:cx)(s:St):List Deferred->Prop
 | []=>True
 |d::ds=>(∃id r,bJ s.heap id=some .gK/\G.own id=some r/\d.target=.collected r.block/\ ∀d'∈ds,∀b,d'.target=.collected b->b≠r.block)/\pE G s ds
theorem pE.ext{G G':cx}{s s':St}{w w':World}(h:Ext G s w G' s' w'): ∀{ds:List Deferred},pE G s ds->pE G' s' ds
 | [],_=>trivial
 |_::_,⟨⟨id,r,a,b,c,d⟩,hr⟩=>⟨⟨id,r,h.gK id a,h.le.own _ _ b,c,d⟩,pE.ext h hr⟩
def wD(G:cx)(ρ:Option Nat):Prop:= ∀id,ρ=some id-> ∃r,G.own id=some r
theorem Ik{G G':cx}{ρ:Option Nat}(h:sJ G G')(hk:wD G ρ):xd G' ρ=xd G ρ:=by
 cases ρ with
 |none=>rfl
 |some id=>
  obtain⟨r,hr⟩:=hk id rfl;simp[xd,hr,h.own _ _ hr]
theorem wD.le{G G':cx}{ρ:Option Nat}(h:sJ G G')(hk:wD G ρ):wD G' ρ:=λid e=>let⟨r,hr⟩:=hk id e;⟨r,h.own _ _ hr⟩
structure xF (G:cx) (N:Nat) (ρ:Option Nat) (bX:Env) (s:St) (a:Act) (w:World):Prop where
 jd:eQ G s w
 bX:jx G bX a.tmps
 size:a.tmps.size=N
 mM:pE G s a.defers
 known:wD G ρ
def iy(G:cx)(N:Nat)(ρ:Option Nat)(s:St)(w:World)(Q:Exit->Env->St->Prop)(e:Exit)(a':Act)(w':World):Prop:=
 ∃G' env' s',xF G' N ρ env' s' a' w'/\Ext G s w G' s' w'/\Q e env' s'
def mu(P:Program)(N:Nat)(ρ:Option Nat)(c:Code)(Q:Exit->Env->St->Prop)(bX:Env)(s:St):Prop:=
 ∀G w a,xF G N ρ bX s a w->c.wpIn (vx (xd G ρ)) 0 P (iy G N ρ s w Q) a w
def SE(K:Env->St->Prop)(Q:Exit->Env->St->Prop):Exit->Env->St->Prop
 |.normal,bX,s=>K bX s
 |e,bX,s=>Q e bX s
def pF(id:Nat)(Q:Exit->Env->St->Prop):Exit->Env->St->Prop
 |.exit fL,bX,s=>if fL=id then Q .normal bX s else Q (.exit fL) bX s
 |e,bX,s=>Q e bX s
def fQ(d:Option Nat)(v:AV)(bX:Env):Env:=match d with
 |some d=>eF bX d v
 |none=>bX
def enters(P:Program)(f:FuncId):Bool:=match P.funcs[f]? with
 | some fn => fn.name != "runtime.NumGoroutine" && fn.body.isSome
 |none=>false
def gx:Op->Option (Operand×List Operand)
 |.call {callee:=.value f,args,..}=>some (f,args.toList)
 |_=>none
def V8(P:Program)(o:Oper)(K:AV->St->Prop)(bX:Env)(s:St):Prop:=
 match gx o.op with
 |some (f,args)=>match oper bX f,opers bX args with
  |some (.fn g gk),some l=>enters P g=true/\dQ P g (l++gk) s K
  |some (.lf id),some l=>jk P id l s K
  |_,_=>False
 |none=>match jc P o.op bX s with
  |some (v,s')=>K v s'
  |none=>False
def Yx(ops:Array Oper)(o:Oper)(bX:Env)(A B:Prop):Prop:=
 match o.guard with
 |none=>A
 |some (j,want)=>match(ops[j]?).bind (·.dst)with
  |some d=>match bJ bX d with
   |some (.bool b)=>(b=want->A)/\(b=!want->B)
   |some (.eC [])=>B
   |_=>False
  |none=>False
def ng(N:Nat):Option Nat->Bool
 |some d=>decide (d<N)
 |none=>true
section
variable {P:Program} {N:Nat} {ρ:Option Nat} {Q Q':Exit->Env->St->Prop} {bX:Env} {s:St}
theorem iy.mono{G:cx}{w:World}{e:Exit}{a':Act}{w':World}(h:iy G N ρ s w Q e a' w')(hq: ∀e bX s,Q e bX s->Q' e bX s):iy G N ρ s w Q' e a' w':=
 let⟨G',env',s',a,b,c⟩:=h;⟨G',env',s',a,b,hq _ _ _ c⟩
theorem mu.mono{c:Code}(h:mu P N ρ c Q bX s)(hq: ∀e bX s,Q e bX s->Q' e bX s):mu P N ρ c Q' bX s:=
 λG w a hn=>wpIn_mono (h G w a hn) λ_ _ _ ha=>ha.mono hq
theorem xF.after{G:cx}{e:Exit}{a:Act}{w:World}(h:xF G N ρ bX s a w)(hq:Q e bX s):iy G N ρ s w Q e a w:=⟨G,bX,s,h,.refl _ _ _,hq⟩
theorem mu.later{c:Code}{G G':cx}{s0:St}{w0:World}{w:World}{a:Act}(h:mu P N ρ c Q bX s)(h0:eQ G s0 w0)(hk:wD G ρ)(hx:Ext G s0 w0 G' s w)(hn:xF G' N ρ bX s a w):
  c.wpIn (vx (xd G ρ)) 0 P (iy G N ρ s0 w0 Q) a w:=by
 have:=h G' w a hn;rw[Ik hx.le hk]at this;exact wpIn_mono this λe a' w' ⟨G2,vy,s2,n2,x2,q2⟩=>⟨G2,vy,s2,n2,.trans h0 hx x2,q2⟩
theorem PA(h:Q .ret bX s):mu P N ρ .ret Q bX s:=λ_ _ _ hn=>wpIn_ret (hn.after h)
theorem Cp{x y:Code}(h:mu P N ρ x (SE (mu P N ρ y Q) Q) bX s):mu P N ρ (.seq x y) Q bX s:=λG w a hn=>by
 refine wpIn_seq (wpIn_mono (h G w a hn) ?_);rintro e a' w' ⟨G',env',s',n',x',q'⟩;cases e with
 |normal=>exact mu.later q' hn.jd hn.known x' n'
 |exit id=>exact⟨G',env',s',n',x',q'⟩
 |goto l=>exact⟨G',env',s',n',x',q'⟩
 |ret=>exact⟨G',env',s',n',x',q'⟩
 |panic ch=>exact⟨G',env',s',n',x',q'⟩
 |outgrown=>exact⟨G',env',s',n',x',q'⟩
theorem JT{id:Nat}{c:Code}(h:mu P N ρ c (pF id Q) bX s):mu P N ρ (.block id c) Q bX s:=λG w a hn=>by
 refine wpIn_block (wpIn_mono (h G w a hn) ?_);rintro e a' w' ⟨G',env',s',n',x',q'⟩;cases e with
 |exit fL=>
  simp only[pF]at q';simp only[Exit.inBlock];split
  ·rename_i he;rw[dP he]at q';exact⟨G',env',s',n',x',q'⟩
  ·rename_i he;rw[dY he]at q';exact⟨G',env',s',n',x',q'⟩
 |normal=>exact⟨G',env',s',n',x',q'⟩
 |goto l=>exact⟨G',env',s',n',x',q'⟩
 |ret=>exact⟨G',env',s',n',x',q'⟩
 |panic ch=>exact⟨G',env',s',n',x',q'⟩
 |outgrown=>exact⟨G',env',s',n',x',q'⟩
theorem GA{F:Fence}{n:Nat}{R:Exit->Act->World->Prop}{c:Code}(J:Nat->Act->World->Prop)
  (round: ∀k a w,J k a w->c.wpIn F n P (Exit.then (λa' w'=> ∃k',k'<k/\J k' a' w') R) a w) {k:Nat} {a:Act} {w:World} (h0:J k a w):(Code.loop c).wpIn F n P R a w:=by
 intro b kk cs JU hb hr;have key: ∀j a w,J j a w-> ∃e a' w',R e a' w'/\ArrivesIn (Machine.fenced P F) P (lone (b.atR a (.code c::.inLoop c::kk)) cs w) b kk cs e a' w':=by
  intro j
  induction j using Nat.strongRecOn with
  |_ j ih=>
   intro a w hI;obtain⟨e,xf,xg,hq,sZ⟩:=round j a w hI b (.inLoop c::kk) cs JU hb hr;cases e with
   |normal=>
    obtain⟨k',gl,V9⟩:=hq;obtain⟨Z1,Z2,Z3,Wa,PB⟩:=ih k' gl xf xg V9;exact⟨Z1,Z2,Z3,Wa,.of_steps (StepsIn.trans sZ (.one (fenced_calm hb hr rfl) stepR_inLoop)) PB⟩
   |exit id=>exact⟨_,xf,xg,hq,.pass (x:=.inLoop c) rfl (λ_ _=>.inl (by simp)) sZ⟩
   |goto l=>exact⟨_,xf,xg,hq,.pass (x:=.inLoop c) rfl (λ_ _=>.inl (by simp)) sZ⟩
   |ret=>exact⟨_,xf,xg,hq,.pass (x:=.inLoop c) rfl (λ_ _=>.inl (by simp)) sZ⟩
   |panic ch=>exact⟨_,xf,xg,hq,.pass (x:=.inLoop c) rfl (λ_ _=>.inl (by simp)) sZ⟩
   |outgrown=>exact⟨_,xf,xg,hq,.pass (x:=.inLoop c) rfl (λ_ _=>.inl (by simp)) sZ⟩
 obtain⟨e,a',w',hq,sZ⟩:=key k a w h0;exact⟨e,a',w',hq,.of_steps (.one (fenced_calm hb hr rfl) stepR_loop) sZ⟩
theorem Ea{G:cx}{v:Value}{x:AV}(h:yl v=some x):V G x v:=by
 unfold yl at h;split at h<;>cases h
 ·exact .bool _
 ·exact .int _ _
 ·exact .str _
 ·exact .iO
 ·exact .nG
 ·exact .slnil _ _ _ (λ_=>rfl) (λ_=>rfl)
theorem Bq{G:cx}: ∀{l:List Value}{xs:List AV},uc l=some xs->xs.length=l.length/\ ∀(i:Nat)x y,xs[i]? =some x->l[i]? =some y->V G x y
 | [],xs,h=>by simp[uc]at h;subst h;simp
 |v::r,xs,h=>by
  simp only[uc]at h;split at h
  ·rename_i x l h1 h2;cases h;obtain⟨e1,e2⟩:=Bq (G:=G) h2;refine⟨by simp[e1],λi a b ha hb=>?_⟩;cases i with
   |zero=>simp at ha hb;subst ha;subst hb;exact Ea h1
   |succ i=>exact e2 i a b (by simpa using ha) (by simpa using hb)
  ·cases h
theorem rC{G:cx}{v:Value}{x:AV}(h:ofValue v=some x):V G x v:=by
 unfold ofValue at h;split at h
 ·rename_i cs;split at h
  ·rename_i l hl;cases h;obtain⟨e1,e2⟩:=Bq (G:=G) hl;exact .agg _ _ (by simpa using e1) λi a b ha hb=>e2 i a b ha (by simpa using hb)
  ·cases h
 ·exact Ea h
theorem fe{G:cx}{a:Act}(he:jx G bX a.tmps){o:Operand}{x:AV}(h:oper bX o=some x):V G x (a.eval o):=by
 cases o with
 |tmp t=>exact(he t x h).2
 |const v=>exact rC h
 |func f=>cases h;exact .fn f [] #[] rfl (by simp)
 |global g=>cases h
theorem rD{G:cx}{a:Act}(he:jx G bX a.tmps): ∀{l:List Operand}{xs:List AV},opers bX l=some xs->
  xs.length=l.length/\ ∀(i:Nat)x y,xs[i]? =some x->(l.map a.eval)[i]? =some y->V G x y
 | [],xs,h=>by simp[opers]at h;subst h;simp
 |o::r,xs,h=>by
  simp only[opers]at h;split at h
  ·rename_i x l h1 h2;cases h;obtain⟨e1,e2⟩:=rD he h2;refine⟨by simp[e1],λi a b ha hb=>?_⟩;cases i with
   |zero=>simp at ha hb;subst ha;subst hb;exact fe he h1
   |succ i=>exact e2 i a b (by simpa using ha) (by simpa using hb)
  ·cases h
theorem ue{G:cx}{a:Act}(he:jx G bX a.tmps){l:Array Operand}{xs:List AV}(h:opers bX l.toList=some xs):VL G xs (l.map a.eval):=by
 obtain⟨e1,e2⟩:=rD he h;exact⟨by simpa using e1,λi x y hx hy=>e2 i x y hx (by simpa using hy)⟩
theorem Eb{c:Operand}{x y:Code}{b:Bool}(hc:oper bX c=some (.bool b))(ht:b=true->mu P N ρ x Q bX s)(hf:b=false->mu P N ρ y Q bX s):
  mu P N ρ (.cond c x y) Q bX s:=λG w a hn=>by
 have hv:=fe hn.bX hc;generalize hq:a.eval c=v at hv;cases hv;exact wpIn_cond_split hq (λe=>ht e G w a hn) (λe=>hf e G w a hn)
theorem jx.sub{G:cx}{bX env':Env}{tmps:Array Value}(h:jx G bX tmps)(hs: ∀t x,bJ env' t=some x->bJ bX t=some x):jx G env' tmps:=λt x hx=>h t x (hs t x hx)
theorem pE.drop{G:cx}{s s':St}(hd: ∀id,bJ s.heap id=some .gK->bJ s'.heap id=some .gK): ∀{ds:List Deferred},pE G s ds->pE G s' ds
 | [],_=>trivial
 |_::_,⟨⟨id,r,a,b,c,d⟩,hr⟩=>⟨⟨id,r,hd id a,b,c,d⟩,pE.drop hd hr⟩
end
end Go.Am
end
section
namespace Go.Am
open Go.RowKit
section
variable {P:Program} {G:cx} {s s':St} {w:World}
def tS(P:Program)(G:cx)(s:St)(w:World)(PC:Sem Value)(x:AV)(s':St):Prop:=
 ∃v G' w',PC.run P w=.ok v w'/\V G' x v/\eQ G' s' w'/\Ext G s w G' s' w'
theorem ec(hs:eQ G s w){PC:Sem Value}{x:AV}{v:Value}(hr:PC.run P w=.ok v w)(hv:V G x v):tS P G s w PC x s:=⟨v,G,w,hr,hv,hs,.refl _ _ _⟩
theorem iz{t:TypeId}{i:TypeInfo}(h:P.info? t=some i)(w:World):(typeInfo t).run P w=.ok i w:=by simp[typeInfo,h]
theorem nh{t n:Nat}(h:dF P t=some n): ∃i,P.info? t=some i/\i.size=n:=by
 unfold dF at h;cases hi:P.info? t with
 |none=>simp[hi]at h
 |some i=>simp[hi]at h;exact⟨i,rfl,h⟩
theorem qw{t n:Nat}(h:pD P t=some n): ∃i,P.info? t=some i/\i.bytes=n:=by
 unfold pD at h;cases hi:P.info? t with
 |none=>simp[hi]at h
 |some i=>simp[hi]at h;exact⟨i,rfl,h⟩
theorem eI{t n:Nat}(h:dF P t=some n)(w:World):(sizeOf t).run P w=.ok n w:=by
 obtain⟨i,hi,rfl⟩:=nh h;simp[sizeOf,iz hi]
theorem uf{t:Nat}{b:Bool}(h:LF P t=some b)(w:World):(isAgg t).run P w=.ok b w:=by
 unfold LF at h;cases hu:P.underlying t with
 |none=>simp[hu]at h
 |some d=>
  simp only[hu,gX,Option.some.injEq]at h;simp only[isAgg,Sem.run_bind,run_underlying hu,Result.andThen_ok];cases d<;>simp_all
theorem kw{t:Nat}{x:AV}(h:jK P t=some x)(w:World)(G:cx): ∃v,(zeroValue t).run P w=.ok v w/\V G x v:=by
 unfold jK at h;cases hi:P.info? t with
 |none=>simp[hi]at h
 |some i=>
  cases hz:i.zero with
  |none=>simp[hi,hz]at h
  |some v=>
   simp[hi,hz]at h;exact⟨v,by simp[zeroValue,iz hi,hz],rC h⟩
theorem fO{t e:Nat}(h:eH P t=some e):P.underlying t=some (.slice e):=by
 unfold eH at h;split at h<;>simp_all
theorem Cq{t n e:Nat}(h:vv P t=some (n,e)):P.underlying t=some (.array n e):=by
 unfold vv at h;split at h<;>simp_all
theorem Cr{t:Nat}(h:xc P t=true):P.underlying t=some .string:=by
 unfold xc at h;split at h<;>simp_all
theorem LH{t:Nat}{k:IntKind}(h:Gw P t=some k):P.underlying t=some (.int k):=by
 unfold Gw at h;split at h<;>simp_all
theorem yr{t i off n:Nat}(h:nV P t i=some (off,n)): ∃fs f,P.underlying t=some (.struct fs)/\fs[i]? =some f/\f.offset=off/\dF P f.type=some n:=by
 unfold nV at h;split at h
 ·rename_i fs hu;split at h
  ·rename_i f hf;split at h
   ·rename_i m hm;cases h;exact⟨fs,f,hu,hf,rfl,hm⟩
   ·cases h
  ·cases h
 ·cases h
def qx(G:cx)(w:World)(b o:Nat)(cs:List AV):Prop:= ∀k x,cs[k]? =some x-> ∃v,w.cell? ⟨b,o+k,none⟩=some v/\V G x v
theorem eQ.there(hs:eQ G s w){id el off cN:Nat}{elems:List AV}{e:AV}{r:ua}(hg:bJ s.heap id=some (.cells cN elems))(ho:G.own id=some r)(he:elems[el]? =some e):
  qx G w r.block (r.cn+el*r.cN+off) (e.cells.drop off):=by
 obtain⟨o,e2,e3⟩:=hs.at hg ho;cases e3 with
 |cells _ _ cs ty eG eE h0 ja jH fB hV=>
  intro k x hx;rw[Lw]at hx;obtain⟨v,hv,s7⟩:=hV _ x (pC ja he (off+k) x hx);refine⟨v,?_,s7⟩;subst eE;simp only[World.cell?,e2];rw[show r.cn+el*r.cN+off+k=r.cn+(el*r.cN+(off+k))from by omega];simpa using hv
theorem sM(hs:eQ G s w){p:AV}{pv:Value}(hp:V G p pv){cs:List AV}(h:nJ s p=some cs): ∃b o,pv=.pointer (some ⟨b,o,none⟩)/\qx G w b o cs:=by
 cases hp with
 |mp id el off r ho=>
  simp only[nJ]at h;split at h
  ·rename_i cN elems hg;split at h
   ·rename_i e he;cases h;exact⟨_,_,rfl,hs.there hg ho he⟩
   ·cases h
  ·cases h
 |ip cells b off val iw hV=>
  cases h;refine⟨b,off,rfl,λk x hx=>⟨val k,hs.ir _ _ _ (iw k (fT.1 hx).1),hV k x hx⟩⟩
 |_=>simp[nJ]at h
theorem nW(b o n:Nat):(⟨b,o,none⟩:Addr).add n=⟨b,o+n,none⟩:=by unfold Addr.add;split<;>simp_all
theorem qx.loadCells{b o n:Nat}{cs:List AV}(h:qx G w b o cs)(hn:n<=cs.length): ∃vs:Array Value,(loadCells ⟨b,o,none⟩ n).run P w=.ok vs w/\VL G (cs.take n) vs:=by
 refine⟨((List.range n).map λj=>(w.cell? ⟨b,o+j,none⟩).getD undef).toArray,?_,?_⟩
 ·refine run_loadCells w _ n _ λj hj=>?_;rw[nW];have hl:j<cs.length:=by omega
  obtain⟨v,hv,_⟩:=h j cs[j] (dR hl);simp[hv]
 ·refine⟨by simp;omega,λi x y hx hy=>?_⟩;have hi:i<n:=by
   have:=(fT.1 hx).1;simp at this;omega
  rw[U7,dP hi]at hx;obtain⟨v,hv,hV⟩:=h i x hx;simp[hi,hv]at hy;subst hy;exact hV
theorem qx.read{b o t:Nat}{cs:List AV}{x:AV}(h:qx G w b o cs)(hr:qs P t cs=some x): ∃v,(loadVar t ⟨b,o,none⟩).run P w=.ok v w/\V G x v:=by
 unfold qs at hr;split at hr
 ·rename_i ha;split at hr
  ·rename_i n hn;split at hr
   ·rename_i eP;cases hr;obtain⟨vs,e1,e2⟩:=h.loadCells (P:=P) eP;exact⟨.agg vs,by simp[loadVar,uf ha,eI hn,e1],.agg _ _ e2.1 e2.2⟩
   ·cases hr
  ·cases hr
 ·rename_i ha;split at hr
  ·rename_i y l;cases hr;obtain⟨v,e1,e2⟩:=h 0 x rfl;refine⟨v,?_,e2⟩;simp only[DO]at e1;simp[loadVar,uf ha,e1]
  ·cases hr
 ·cases hr
theorem pG{t off:Nat}{cs:List AV}{vs:Array Value}{x:AV}(h:VL G cs vs)(hr:qs P t (cs.drop off)=some x): ∃v,(part t vs off).run P w=.ok v w/\V G x v:=by
 unfold qs at hr;split at hr
 ·rename_i ha;split at hr
  ·rename_i n hn;split at hr
   ·rename_i eP;cases hr;refine⟨.agg (vs.extract off (off+n)),by simp[part,uf ha,eI hn],.agg _ _ ?_ ?_⟩
    ·have:=h.1;simp at eP |-
     omega
    ·intro i a b LI hb;have hi:i<n:=by
      have:=(fT.1 LI).1;simp at this;omega
     rw[U7,dP hi,Lw]at LI;rw[Array.getElem?_extract]at hb;split at hb
     ·exact h.2 _ _ _ LI hb
     ·cases hb
   ·cases hr
  ·cases hr
 ·rename_i ha;split at hr
  ·rename_i y l heq;cases hr;have hx:cs[off]? =some x:=by
    have:=fC (λl:List AV=>l[0]?) heq;simpa[Lw]using this
   obtain⟨v,e1,e2⟩:=h.get hx;refine⟨v,?_,e2⟩;simp[part,uf ha,e1]
  ·cases hr
 ·cases hr
theorem LJ(hs:eQ G s w){t:TypeId}{p x:AV}{pv:Value}(hp:V G p pv)(h:qd P t p s=some x):tS P G s w (Instr.loadAt t pv) x s:=by
 unfold qd at h;split at h
 ·rename_i cs hc;obtain⟨b,o,rfl,ht⟩:=sM hs hp hc;obtain⟨v,e1,e2⟩:=ht.read (P:=P) h;exact ec hs (by simp[Instr.loadAt,Instr.sureAddr,e1]) e2
 ·cases h
theorem VL.length{cs:List AV}{vs:Array Value}(h:VL G cs vs):cs.length=vs.size:=h.1
theorem Il(hs:eQ G s w){t:TypeId}{x y:AV}{v:Value}(hv:V G x v)(h:Cm x s=some (y,s')):tS P G s w (Instr.box t v) y s':=by
 unfold Cm at h;split at h
 ·rename_i hc;cases h;have hx:x≠ .any:=λe=>by subst e;simp[AV.cells,AV.dn]at hc
  have hl:=VL.cells hv hx;obtain⟨h1,h2⟩:=hs.put (o:=.cells v.cells t) (blk:=.cells x.cells.length [x]) (r:=⟨w.heap.size,0,x.cells.length,v.cells.size⟩) rfl
   (.cells _ _ _ _ rfl rfl hc.1 (by simp) (by simpa[dB]using hc.2) (by simp[hl.1]) λk z hz=>by
    simp[dB]at hz;obtain⟨u,e1,e2⟩:=hl.get hz;exact⟨u,by simpa using e1,e2.mono (.put (hs.cE _ (eD _)))⟩)
  refine⟨.pointer (some ⟨w.heap.size,0,none⟩),_,_,?_,?_,h1,h2⟩
  ·simp[Instr.box,newVar,newRow]
  ·have:=V.mp (G:=G.put s.cr ⟨w.heap.size,0,x.cells.length,v.cells.size⟩) s.cr 0 0 _ (by simp[cx.put];rfl);simpa using this
 ·cases h
theorem JV(hs:eQ G s w){t:TypeId}{z y:AV}(hz:jK P t=some z)(h:Cm z s=some (y,s')):tS P G s w (Instr.alloc t true (.tuple #[])) y s':=by
 obtain⟨v,e1,e2⟩:=kw hz w G;obtain⟨u,G',w',e3,e4⟩:=Il (P:=P) (t:=t) hs e2 h;refine⟨u,G',w',?_,e4⟩;simp only[Instr.alloc,Sem.run_bind,e1,Result.andThen_ok];simpa[Instr.box]using e3
theorem cells_one{x:AV}(h:x.dn=true):x.cells=[x]:=by
 cases x<;>first|rfl|(simp[AV.dn]at h)
theorem Ec: ∀{l:List AV},l.all AV.dn=true->dB l=l
 | [],_=>rfl
 |x::l,h=>by
  simp only[Yk,fE]at h;simp only[dB,F6,cells_one h.1];exact fC (x:: ·) (Ec h.2)
theorem Br{n:Nat}(h0:0<n): ∀(k:Nat)(l:List AV),l.length=k*n->l.all AV.dn=true->(∀e∈chunk n k l,e.cells.length=n)/\dB (chunk n k l)=l
 |0,l,hl,_=>by
  have:l=[]:=ZE.1 (by simpa using hl);subst this;exact⟨λe he=>(by cases he),rfl⟩
 |k+1,l,hl,hs=>by
  rw[Nat.succ_mul]at hl;obtain⟨h1,h2⟩:=Br h0 k (l.drop n) (by simp;omega) (pA.2 λx hx=>pA.1 hs x (D4 hx));have key:(bif Nat.beq n 1 then l.headD .any else .agg (l.take n):AV).cells=l.take n:=by
   cases hb:Nat.beq n 1 with
   |false=>rfl
   |true=>
    have:=jn hb;subst this;cases l with
    |nil=>simp at hl
    |cons x r=>exact cells_one (pA.1 hs x (by simp))
  refine⟨λe he=>?_,?_⟩
  ·rcases mZ.1 he with rfl|he
   ·rw[key,F7];omega
   ·exact h1 e he
  ·show dB (_::chunk n k (l.drop n))=l;simp only[dB,F6]at h2 |-
   rw[h2,key,Lk]
theorem GB(hs:eQ G s w){t:TypeId}{z y:AV}(hz:jK P t=some z)(h:D8 P t z s=some (y,s')):tS P G s w (Instr.alloc t true (.tuple #[])) y s':=by
 obtain⟨v,e1,hv⟩:=kw hz w G;unfold D8 at h;split at h
 case h_2=>cases h
 rename_i m e _;split at h
 case h_2=>cases h
 rename_i n _;cases Wb:(Nat.blt 0 m&&(Nat.blt 0 n&&(Nat.beq z.cells.length (m*n)&&z.cells.all AV.dn)))<;>rw[Wb]at h
 ·cases h
 ·simp only[fE,ru]at Wb;obtain⟨hm,hn,dJ,hc⟩:=Wb;have dJ:=jn dJ;have vz:0<m*n:=Nat.mul_pos hm hn;obtain⟨q1,q2⟩:=Br hn m z.cells dJ hc;have Ed:(chunk n m z.cells).length=m:=by
   have: ∀(k:Nat)(l:List AV),(chunk n k l).length=k:=λk=>by induction k with|zero=>intro l;rfl|succ k ih=>intro l;simp[chunk,ih]
   exact this m z.cells
  cases h;have hx:z≠ .any:=λe=>by subst e;simp[AV.cells,AV.dn]at hc
  have hl:=VL.cells hv hx;obtain⟨h1,h2⟩:=hs.put (o:=.cells v.cells t) (blk:=.cells n (chunk n m z.cells)) (r:=⟨w.heap.size,0,n,v.cells.size⟩) rfl
   (.cells _ _ _ _ rfl rfl hn q1 (by rw[q2];exact pA.1 hc) (by rw[Ed,<-dJ];simp[hl.1]) λk x hx=>by
    rw[q2]at hx;obtain⟨u,e1,e2⟩:=hl.get hx;exact⟨u,by simpa using e1,e2.mono (.put (hs.cE _ (eD _)))⟩)
  refine⟨.pointer (some ⟨w.heap.size,0,none⟩),_,_,?_,?_,h1,h2⟩
  ·simp only[Instr.alloc,Sem.run_bind,e1,Result.andThen_ok];simp[newVar,newRow]
  ·have:=V.mp (G:=G.put s.cr ⟨w.heap.size,0,n,v.cells.size⟩) s.cr 0 0 _ (by simp[cx.put];rfl);simpa using this
theorem V.PD{x:AV}{v:Value}(h:V G x v)(hx:x.dn=true):v.oneCell'=true:=by
 cases h<;>simp_all[AV.dn,Value.oneCell']
theorem qe(l:List AV)(k:Nat)(new:List AV)(i:Nat)(h:k+new.length<=l.length):
  (jL l k new)[i]? =if i<k then l[i]? else if i<k+new.length then new[i-k]? else l[i]?:=by
 unfold jL;by_cases h1:i<k
 ·rw[nD (by simp;omega),dP h1,U7,dP h1]
 ·rw[qb (by simp;omega),dY h1];simp only[F7,show min k l.length=k from by omega];by_cases h2:i<k+new.length
  ·rw[dP h2,nD (by omega)]
  ·rw[dY h2,qb (by omega),Lw];congr 1;omega
theorem nX(l:List AV)(k:Nat)(new:List AV)(h:k+new.length<=l.length):(jL l k new).length=l.length:=by
 simp[jL];omega
theorem lN(Vh:Array Value)(k:Nat)(new:List Value)(i:Nat)(h:k+new.length<=Vh.size):
  ((Vh.toList.take k++new++Vh.toList.drop (k+new.length)).toArray)[i]? =if i<k then Vh[i]? else if i<k+new.length then new[i-k]? else Vh[i]?:=by
 simp only[ZF];by_cases h1:i<k
 ·rw[Ig,nD (by simp;omega),dP h1,U7,dP h1];simp
 ·rw[Ig,qb (by simp;omega),dY h1];simp only[F7,F8,show min k Vh.size=k from by omega];by_cases h2:i<k+new.length
  ·rw[dP h2,nD (by omega)]
  ·rw[dY h2,qb (by omega),Lw];simp;congr 1;omega
theorem Cs(e:AV)(cs:List AV)(h:cs.length=e.cells.length)(hs: ∀x∈cs,x.dn=true):(qt e cs).cells=cs:=by
 have one:e.cells=[e]->(∀l,qt e l=match l with|x::_=>x| []=>.any)->(qt e cs).cells=cs:=λh1 h2=>by
  rw[h1]at h
  match cs,h with
  | [x],_=>
   have:=hs x (by simp);rw[h2];cases x<;>simp_all[AV.cells,AV.dn]
 cases e with
 |agg l=>rfl
 |_=>exact one rfl λ_=>rfl
theorem setRow_other(w:World)(g:Nat)(cs:Array Value)(b:Nat)(h:b≠g):(w.setRow g cs).heap[b]? =w.heap[b]?:=by
 simp only[World.setRow,Array.getElem?_modify];rw[dY (by omega)]
theorem yu(hs:eQ G s w){id cN:Nat}{elems elems':List AV}{r:ua}{cs:Array Value}{ty:TypeId}(hg:bJ s.heap id=some (.cells cN elems))(ho:G.own id=some r)
  (hw:w.heap[r.block]? =some (.cells cs ty (0,0))) {cs':Array Value} (eG:cs'.size=r.size) (eE:r.cN=cN) (h0:0<cN) (ja: ∀x∈elems',x.cells.length=cN)
  (jH: ∀x∈dB elems',x.dn=true) (fB:r.cn+elems'.length*cN<=r.size) (hV: ∀k x,(dB elems')[k]? =some x-> ∃v,cs'[r.cn+k]? =some v/\V G x v):
  eQ G ⟨eF s.heap id (.cells cN elems'),s.cr⟩ (w.setRow r.block cs')/\Ext G s w G ⟨eF s.heap id (.cells cN elems'),s.cr⟩ (w.setRow r.block cs'):=
 hs.turn hg ho (by simp[World.setRow]) rfl rfl rfl (λb hb=>setRow_other w _ _ _ hb) (setRow_heap w _ cs cs' ty _ hw) (.cells cN elems' cs' ty eG eE h0 ja jH fB hV) (by simp)
end
end Go.Am
end
section
namespace Go.Am
open Go.RowKit
section
variable {P:Program} {G:cx} {s s':St} {w:World}
theorem kx{l:List AV}(h:l.all AV.dn=true): ∀x∈l,x.dn=true:=by simpa using h
theorem nK{x:AV}(h:x.cells.all AV.dn=true):x≠ .any:=λe=>by subst e;simp[AV.cells,AV.dn]at h
theorem VL.ug{cs:List AV}{vs:Array Value}(h:VL G cs vs)(hs: ∀x∈cs,x.dn=true): ∀v∈vs.toList,v.oneCell'=true:=by
 intro v hv;obtain⟨i,hi,rfl⟩:=ry hv;have Ct:i<cs.length:=by rw[h.1];simpa using hi
 exact(h.2 i cs[i] _ (dR Ct) (by simp)).PD (hs _ (JN Ct))
theorem GC{k e m:Nat}(h0:0<m)(h:k / m=e):e*m<=k/\k<e*m+m/\k%m=k-e*m:=by
 subst h;have h1:=Yj k m;have h2:=Nat.mod_lt k h0;rw[Ss]at h1;omega
theorem LK{elems:List AV}{el:Nat}{e:AV}(y:AV){i:Nat}{z:AV}(he:elems[el]? =some e)(h:(elems.set el y)[i]? =some z):(i=el/\z=y)\/(i≠el/\elems[i]? =some z):=by
 rw[Yl]at h;have hl:=(fT.1 he).1;split at h
 ·rename_i hi;subst hi;cases h;exact .inl ⟨rfl,rfl⟩
 ·rename_i hi;exact .inr ⟨λe=>hi e.symm,h⟩
theorem JW(hs:eQ G s w){t:TypeId}{p x:AV}{pv v:Value}(hp:V G p pv)(hx:V G x v)(h:ym P t p x s=some s'):
  ∃w',(Instr.storeAt t pv v).run P w=.ok () w'/\eQ G s' w'/\Ext G s w G s' w':=by
 unfold ym at h;split at h
 case h_2=>cases h
 rename_i id el off;split at h
 case h_2=>cases h
 rename_i cN elems hg;split at h
 case h_2=>cases h
 rename_i e he;split at h
 case isFalse=>cases h
 rename_i hc;obtain⟨eG,eP,jz⟩:=hc;cases h;cases hp with
 |mp _ _ _ r ho=>
  have hl:=VL.cells hx (nK jz);have Wc:=kx jz;obtain⟨o,e2,e3⟩:=hs.at hg ho;cases e3 with
  |cells _ _ cs ty s8 eE h0 ja jH fB hV=>
   have Z4:el<elems.length:=(fT.1 he).1;have Z5:e.cells.length=cN:=ja e (gT he);have hmul:(el+1)*cN<=elems.length*cN:=AM _ Z4;rw[vm]at hmul;have dJ:v.cells.toList.length=x.cells.length:=by simp[hl.1]
   have pH:r.cn+el*cN+off+0+v.cells.toList.length<=cs.size:=by rw[dJ,s8];omega
   have fM:=run_storeCells_at P r.block (r.cn+el*cN+off) ty v.cells.toList 0 cs w e2 pH (hl.ug Wc);simp only[DO]at fM pH;have PE:(jL e.cells off x.cells).length=e.cells.length:=nX _ _ _ (by omega);have Ri: ∀z∈jL e.cells off x.cells,z.dn=true:=by
    intro z hz;simp only[jL,lT]at hz;have hec: ∀z∈e.cells,z.dn=true:=λz hz=>jH z (by rw[dB,tK];exact⟨e,gT he,hz⟩);rcases hz with hz|hz|hz
    ·exact hec z (xA hz)
    ·exact Wc z hz
    ·exact hec z (D4 hz)
   have Z6:=Cs e (jL e.cells off x.cells) PE Ri;have JX: ∀y∈elems.set el (qt e (jL e.cells off x.cells)),y.cells.length=cN:=by
    intro y hy;rcases Ym hy with hy|rfl
    ·exact ja y hy
    ·rw[Z6,PE,Z5]
   have PF: ∀k z,(dB (elems.set el (qt e (jL e.cells off x.cells))))[k]? =some z->
     ∃u,((cs.toList.take (r.cn+el*cN+off)++v.cells.toList++cs.toList.drop (r.cn+el*cN+off+v.cells.toList.length)).toArray)[r.cn+k]? =some u/\V G z u:=by
    intro k z hz;obtain⟨y,hy,PG⟩:=yi JX h0 hz;rw[lN _ _ _ _ pH,dJ];rcases LK _ he hy with⟨hi,rfl⟩|⟨hi,Ee⟩
    ·obtain⟨m1,m2,m3⟩:=GC h0 hi;rw[Z6,qe _ _ _ _ (by omega),m3]at PG;by_cases c1:r.cn+k<r.cn+el*cN+off
     ·rw[dP c1];rw[dP (by omega)]at PG;have:=pC ja he (k-el*cN) z PG;rw[show el*cN+(k-el*cN)=k from by omega]at this;exact hV k z this
     ·rw[dY c1];rw[dY (by omega)]at PG;by_cases c2:r.cn+k<r.cn+el*cN+off+x.cells.length
      ·rw[dP c2];rw[dP (by omega)]at PG;obtain⟨u,e1,e2⟩:=hl.get PG;refine⟨u,?_,e2⟩;rw[show r.cn+k-(r.cn+el*cN+off)=k-el*cN-off from by omega];simpa using e1
      ·rw[dY c2];rw[dY (by omega)]at PG;have:=pC ja he (k-el*cN) z PG;rw[show el*cN+(k-el*cN)=k from by omega]at this;exact hV k z this
    ·have hk:=pC ja Ee (k%cN) z PG;rw[Ss,Yj]at hk;have eU: ¬(el*cN+off<=k/\k<el*cN+off+x.cells.length):=λ⟨a,b⟩=>hi (by
      have:k / cN=el:=Nat.div_eq_of_lt_le (by omega) (by rw[vm];omega);exact this)
     by_cases c1:r.cn+k<r.cn+el*cN+off
     ·rw[dP c1];exact hV k z hk
     ·rw[dY c1,dY (by omega)];exact hV k z hk
   have SF: ∀z∈dB (elems.set el (qt e (jL e.cells off x.cells))),z.dn=true:=by
    intro z hz;rw[dB,tK]at hz;obtain⟨y,hy,hz⟩:=hz;rcases Ym hy with hy|rfl
    ·exact jH z (by rw[dB,tK];exact⟨y,hy,hz⟩)
    ·rw[Z6]at hz;exact Ri z hz
   obtain⟨q1,q2⟩:=yu hs hg ho e2 (cs':=(cs.toList.take (r.cn+el*cN+off)++v.cells.toList++cs.toList.drop (r.cn+el*cN+off+v.cells.toList.length)).toArray)
    (by simp only[VV,lu,F7,U8,F8]at pH |-;omega) eE h0 JX SF (by simpa using fB) PF
   refine⟨_,?_,q1,q2⟩;subst eE;have Z7:(sizeOf t).run P w=.ok v.cells.size w:=by rw[eI eG,hl.1]
   simp[Instr.storeAt,Instr.sureAddr,storeVar,Z7,fM]
theorem AQ{t:TypeId}{p x:AV}{i:Nat}{pv:Value}(hs:eQ G s w)(hp:V G p pv)(h:yn P t p i=some x):tS P G s w (Instr.fieldAt t pv i) x s:=by
 unfold yn at h;split at h
 case h_2=>cases h
 rename_i off n hf;obtain⟨fs,f,hu,Vi,LL,hn⟩:=yr hf;split at h
 ·cases h
 ·rename_i SG;have run: ∀b o,pv=.pointer (some ⟨b,o,none⟩)->(Instr.fieldAt t pv i).run P w=.ok (.pointer (some ⟨b,o+off,none⟩)) w:=λb o e=>by
   subst e;simp[Instr.fieldAt,run_underlying hu,Vi,Instr.sureAddr,fieldPlace,eI hn,SG,nW,LL]
  split at h
  ·cases h;cases hp with
   |mp id el o r ho=>exact ec hs (run _ _ rfl) (by rw[DP];exact .mp _ _ _ r ho)
  ·cases h;cases hp with
   |ip cells b o val iw hV=>
    refine ec hs (run _ _ rfl) (.ip _ b (o+off) (λk=>val (off+k)) (λk hk=>?_) λk x hx=>?_)
    ·rw[DP];exact iw _ (by simp at hk;omega)
    ·rw[Lw]at hx;exact hV _ x hx
  ·cases h
theorem JY{t:TypeId}{p x:AV}{i:Nat}{pv:Value}(hs:eQ G s w)(hp:V G p pv)(h:ud P t p i=some x):tS P G s w (Instr.field t pv i) x s:=by
 unfold ud at h;split at h
 case h_2=>cases h
 rename_i off n ft hf Wd;obtain⟨fs,f,hu,Vi,LL,hn⟩:=yr hf;have Z8:f.type=ft:=by
  unfold Ck at Wd;rw[hu]at Wd;simp[Vi]at Wd;exact Wd
 unfold LG at h;split at h
 case h_2=>cases h
 rename_i cs;cases hp with
 |agg _ vs dJ hh=>
  subst LL;subst Z8;obtain⟨v,e1,e2⟩:=pG (P:=P) (w:=w) ⟨dJ,hh⟩ h;exact ec hs (by simp[Instr.field,run_underlying hu,Vi,asAgg,e1]) e2
theorem V.qy{full:Bool}{elems:List AV}{v:Value}(h:V G (.sl full elems) v): ∃cn cap,v=.slice cn elems.length cap/\elems.length<=cap/\(full=true->cap=elems.length)/\
  (cn=none->cap=0)/\(elems=[]\/ ∃(b off cN:Nat)(val:Nat->Value),cn=some ⟨b,off,none⟩/\(∀e∈elems,e.cells.length=cN)/\(∀x∈dB elems,x.dn=true)/\
   (∀k,k<elems.length*cN->G.ir b (off+k)=some (val k))/\ ∀k x,(dB elems)[k]? =some x->V G x (val k)):=by
 cases h with
 |slnil full cn cap hf hb=>exact⟨cn,cap,rfl,xC _,λe=>hf e,hb,.inl rfl⟩
 |sl _ _ b off cN cap val ko kc eE jH iw hV=>exact⟨_,cap,rfl,ko,kc,(λe=>by cases e),.inr ⟨b,off,cN,val,rfl,eE,jH,iw,hV⟩⟩
theorem JZ(hs:eQ G s w){elems:List AV}{b off cN:Nat}{val:Nat->Value}(eE: ∀e∈elems,e.cells.length=cN)(iw: ∀k,k<elems.length*cN->G.ir b (off+k)=some (val k))
  (hV: ∀k x,(dB elems)[k]? =some x->V G x (val k)):qx G w b off (dB elems):=λk x hx=>by
 have hk:k<elems.length*cN:=by rw[<-dO eE];exact(fT.1 hx).1
 exact⟨val k,hs.ir _ _ _ (iw k hk),hV k x hx⟩
theorem AR{t:TypeId}{p i x:AV}{pv iv:Value}(hs:eQ G s w)(hp:V G p pv)(hi:V G i iv)(h:fy P t p i s=some x):tS P G s w (Instr.indexAt t pv iv) x s:=by
 unfold fy at h;split at h
 case h_2=>cases h
 rename_i kd n;cases hi;split at h
 ·rename_i e he;have hu:=fO he;split at h
  ·rename_i full elems;split at h
   case isFalse=>cases h
   rename_i hn;split at h
   case h_2=>cases h
   rename_i y hy;split at h
   case isFalse=>cases h
   rename_i eG;cases h;obtain⟨cn,cap,rfl,eP,_,_,hz⟩:=V.qy hp;have gl:n.toNat<elems.length:=(fT.1 hy).1;rcases hz with rfl|⟨b,off,cN,val,rfl,eE,_,iw,hV⟩
   ·simp at hy
   ·have hye:y.cells.length=cN:=eE y (gT hy);have Ll:n<(elems.length:Int):=by omega
    have hmul:(n.toNat+1)*cN<=elems.length*cN:=AM _ gl;rw[vm]at hmul;refine ec hs (v:=.pointer (some ⟨b,off+n.toNat*cN,none⟩)) ?_ (.ip _ _ _ (λk=>val (n.toNat*cN+k)) (λk hk=>?_) λk z hz=>?_)
    ·rw[hye]at eG;simp[Instr.indexAt,asIntOf,run_underlying hu,hn,Ll,eI eG,nW]
    ·rw[DP];exact iw _ (by omega)
    ·exact hV _ z (pC eE hy k z hz)
  ·rename_i id b9 len;split at h
   case h_2=>cases h
   rename_i cN elems hg;split at h
   case isFalse=>cases h
   rename_i hc;obtain⟨h1,h2,h3⟩:=hc;cases h;cases hp with
   |ia _ _ _ _ _=>omega
   |ms _ _ _ cap r addr ho eP fB gY=>
    obtain⟨o,e2,e3⟩:=hs.at hg ho;cases e3 with
    |cells _ _ cs ty s8 eE h0 ja jH Ef hV=>
     have ko:0<cap:=by omega
     rw[gY ko];refine ec hs (v:=.pointer (some ⟨r.block,r.cn+(b9+n.toNat)*r.cN+0,none⟩)) ?_ (.mp _ _ _ r ho);subst eE;simp[Instr.indexAt,asIntOf,run_underlying hu,h1,h2,eI h3,nW,vm,DP]
  ·cases h
 ·split at h
  case h_2=>cases h
  rename_i m e he;have hu:=Cq he;split at h
  case h_2=>cases h
  rename_i sz eG;split at h
  case isFalse=>cases h
  rename_i hc;obtain⟨h1,h2⟩:=hc;have run: ∀b o,pv=.pointer (some ⟨b,o,none⟩)->(Instr.indexAt t pv (.int kd n)).run P w=.ok (.pointer (some ⟨b,o+n.toNat*sz,none⟩)) w:=λb o e=>by
   subst e;simp[Instr.indexAt,asIntOf,run_underlying hu,Instr.sureAddr,h1,h2,eI eG,nW]
  split at h
  ·rename_i id el off;cases hb:Nat.blt 8 (m*sz)<;>rw[hb]at h
   ·cases h;cases hp with
    |mp _ _ _ r ho=>exact ec hs (run _ _ rfl) (by rw[DP];exact .mp _ _ _ r ho)
   ·simp only[dt]at h;split at h
    case h_2=>cases h
    rename_i cN elems hg;split at h
    case isFalse=>cases h
    rename_i hq;obtain⟨rfl,rfl⟩:=hq;cases h;cases hp with
    |mp _ _ _ r ho=>
     obtain⟨o,_,e3⟩:=hs.at hg ho;cases e3 with
     |cells _ _ cs ty s8 eE=>
      refine ec hs (run _ _ rfl) ?_;have:=V.mp (G:=G) id (el+n.toNat) 0 r ho;rw[eE,vm]at this;rw[eE];simpa[DP]using this
  ·cases h;cases hp with
   |ip cells b o val iw hV=>
    refine ec hs (run _ _ rfl) (.ip _ b _ (λk=>val (n.toNat*sz+k)) (λk hk=>?_) λk x hx=>?_)
    ·rw[DP];exact iw _ (by simp at hk;omega)
    ·rw[Lw]at hx;exact hV _ x hx
  ·cases h
theorem J0{t:TypeId}{p i x:AV}{pv iv:Value}(hs:eQ G s w)(hp:V G p pv)(hi:V G i iv)(h:sY P t p i=some x):tS P G s w (Instr.index t pv iv) x s:=by
 unfold sY at h;split at h
 case h_2=>cases h
 rename_i kd n;cases hi;split at h
 ·rename_i b;split at h
  case isFalse=>cases h
  rename_i hc;split at h
  case h_2=>cases h
  rename_i c hb;cases h;cases hp;exact ec hs (by simp[Instr.index,asIntOf,run_underlying (Cr hc.1),hc.2,hb]) (.int _ _)
 ·rename_i cs;split at h
  case h_2=>cases h
  rename_i m e he;have hu:=Cq he;split at h
  case h_2=>cases h
  rename_i sz eG;split at h
  case isFalse=>cases h
  rename_i hc;cases hp with
  |agg _ vs dJ hh=>
   obtain⟨v,e1,e2⟩:=pG (P:=P) (w:=w) ⟨dJ,hh⟩ h;exact ec hs (by simp[Instr.index,asIntOf,run_underlying hu,hc,eI eG,e1]) e2
 ·cases h
end
end Go.Am
end
section
namespace Go.Am
open Go.RowKit
section
variable {P:Program} {G:cx} {s s':St} {w:World} {bX:Env} {a:Act}
theorem ni(he:jx G bX a.tmps){x:Option Operand}{d l:Nat}(h:gN bX x d=some l):
  (x=none/\l=d)\/ ∃k n,x.map a.eval=some (.int k n)/\0<=n/\n.toNat=l:=by
 unfold gN at h;split at h
 ·cases h;exact .inl ⟨rfl,rfl⟩
 ·rename_i o;split at h
  ·rename_i k n ho;split at h
   ·rename_i hn;cases h;have hv:=fe he ho;generalize hq:a.eval o=v at hv;cases hv;exact .inr ⟨k,n,by simp[hq],hn,rfl⟩
   ·cases h
  ·cases h
theorem jS{k:IntKind}{n:Int}{y:Nat}{c:BoundsCode}(h0:0<=n)(hy:n.toNat<=y)(w:World):(Instr.sliceBound (.int k n) y c).run P w=.ok n.toNat w:=by
 have:n<=(y:Int):=by omega
 simp[Instr.sliceBound,asIntOf,h0,this]
theorem jl(he:jx G bX a.tmps){lo hi mx:Option Operand}{Yy:Bool}{len cap l h m:Nat}(hl:gN bX lo 0=some l)(hh:gN bX hi len=some h)
  (hm:(mx=none/\m=cap)\/(mx.isSome=true/\hi.isSome=true/\gN bX mx cap=some m)) (h1:l<=h) (h2:h<=m) (h3:m<=cap) (h4:mx=none->h<=cap):
  (Instr.sliceBounds Yy len cap (lo.map a.eval) (hi.map a.eval) (mx.map a.eval)).run P w=.ok (l,h,m) w:=by
 unfold Instr.sliceBounds;rcases hm with⟨rfl,rfl⟩|⟨m1,m2,m3⟩
 ·rcases ni he hl with⟨rfl,rfl⟩|⟨k1,n1,e1,p1,rfl⟩<;>rcases ni he hh with⟨rfl,rfl⟩|⟨k2,n2,e2,p2,rfl⟩
  ·simp
  ·simp[e2,jS p2 (h4 rfl)]
  ·simp[e1,jS p1 h1]
  ·simp[e1,e2,jS p1 h1,jS p2 (h4 rfl)]
 ·rcases ni he m3 with⟨rfl,_⟩|⟨k3,n3,e3,p3,rfl⟩
  ·cases m1
  ·rcases ni he hl with⟨rfl,rfl⟩|⟨k1,n1,e1,p1,rfl⟩<;>rcases ni he hh with⟨rfl,rfl⟩|⟨k2,n2,e2,p2,rfl⟩
   ·cases m2
   ·simp[e2,e3,jS p2 h2,jS p3 h3]
   ·cases m2
   ·simp[e1,e2,e3,jS p1 h1,jS p2 h2,jS p3 h3]
theorem iP{elems:List AV}(n:Nat){x:AV}{cN:Nat}(eE: ∀e∈elems,e.cells.length=cN)(h0:0<cN){k l:Nat}(hx:(dB ((elems.take n).drop l))[k]? =some x):
  (dB elems)[l*cN+k]? =some x:=by
 have Z9: ∀e∈(elems.take n).drop l,e.cells.length=cN:=λe he=>eE e (xA (D4 he));obtain⟨e,he,hk⟩:=yi Z9 h0 hx;rw[Lw,U7]at he;split at he
 ·have:=pC eE he _ _ hk;rw[show(l+k / cN)*cN+k%cN=l*cN+k from by rw[vm,DP];congr 1;rw[Ss];exact Yj k cN]at this;exact this
 ·cases he
theorem Im{e:TypeId}{elems:List AV}{cN:Nat}(hf: ∀y∈elems.head?,dF P e=some y.cells.length)(eE: ∀x∈elems,x.cells.length=cN)(eU:elems≠[]):dF P e=some cN:=by
 cases elems with
 |nil=>exact absurd rfl eU
 |cons x r=>rw[hf x (by simp),eE x (by simp)]
theorem Eg(hs:eQ G s w)(he:jx G bX a.tmps){t e:TypeId}{full Io:Bool}{elems:List AV}{pv:Value}(hp:V G (.sl full elems) pv)(hu:eH P t=some e)
  {lo hi mx:Option Operand} {l h:Nat} (hl:gN bX lo 0=some l) (hh:gN bX hi elems.length=some h) (h1:l<=h) (h2:h<=elems.length)
  (hf: ∀y∈elems.head?,dF P e=some y.cells.length) (eG:(dF P e).isSome=true)
  (hm:(mx=none/\Io=(full&&h==elems.length))\/ ∃m,mx.isSome=true/\hi.isSome=true/\(∀d,gN bX mx d=some m)/\h<=m/\m<=elems.length/\Io=(m==h)):
  tS P G s w (Instr.sliceAt t pv (lo.map a.eval) (hi.map a.eval) (mx.map a.eval)) (.sl Io ((elems.take h).drop l)) s:=by
 obtain⟨cn,cap,rfl,eP,kc,hb,hz⟩:=V.qy hp;obtain⟨m,kT,PH,hmc,pI⟩: ∃m,(Instr.sliceBounds true elems.length cap (lo.map a.eval) (hi.map a.eval) (mx.map a.eval)).run P w=.ok (l,h,m) w/\h<=m/\m<=cap/\(Io=true->m=h):=by
  rcases hm with⟨rfl,rfl⟩|⟨m,m1,m2,m3,m4,m5,rfl⟩
  ·refine⟨cap,jl he hl hh (.inl ⟨rfl,rfl⟩) h1 (by omega) (eD _) (λ_=>by omega),by omega,eD _,λe=>?_⟩;simp only[fE,beq_iff_eq]at e;rw[kc e.1,e.2]
  ·exact⟨m,jl he hl hh (.inr ⟨m1,m2,m3 _⟩) h1 m4 (by omega) (λe=>by subst e;cases m1),m4,by omega,λe=>by simpa using e⟩
 have dJ:((elems.take h).drop l).length=h-l:=by simp;omega
 cases hq:dF P e with
 |none=>rw[hq]at eG;cases eG
 |some sz=>
  have run:(Instr.sliceAt t (.slice cn elems.length cap) (lo.map a.eval) (hi.map a.eval) (mx.map a.eval)).run P w=
    .ok (.slice (if m=l then cn else cn.map (·.add (l*sz))) (h-l) (m-l)) w:=by
   simp[Instr.sliceAt,Instr.slice,run_underlying (fO hu),kT,eI hq]
  refine ec hs run ?_;by_cases eU:h=l
  ·subst eU;have:(elems.take h).drop h=[]:=Gs (by omega);rw[this,Pt];exact .slnil _ _ _ (λe=>by have:=pI e;omega) (λe=>by
    split at e
    ·omega
    ·cases cn with
     |none=>have:=hb rfl;omega
     |some a=>cases e)
  ·rcases hz with rfl|⟨b,off,cN,val,rfl,eE,jH,iw,hV⟩
   ·simp at h2;omega
   ·have nH:elems≠[]:=λe=>by subst e;simp at h2;omega
    have AU:=Im hf eE nH;rw[hq]at AU;cases AU;rw[dY (by omega),<-dJ];have h0:0<sz\/sz=0:=by omega
    simp only[gX,nW];refine .sl _ _ b _ sz _ (λk=>val (l*sz+k)) (by rw[dJ];omega) (λe=>by rw[dJ,pI e]) (λx hx=>eE x (xA (D4 hx)))
     (λx hx=>jH x (by
      rw[dB,tK]at hx |-
      obtain⟨y,hy,hx⟩:=hx;exact⟨y,xA (D4 hy),hx⟩)) (λk hk=>?_) λk x hx=>?_
    ·rw[DP];refine iw _ ?_;rw[dJ]at hk;have:l*sz+(h-l)*sz<=elems.length*sz:=by rw[<-vm];exact AM _ (by omega)
     omega
    ·rcases h0 with h0|h0
     ·exact hV _ x (iP h eE h0 hx)
     ·exfalso;have:(dB ((elems.take h).drop l)).length=0:=by
       rw[dO (cN:=sz) λx hx=>eE x (xA (D4 hx)),h0];simp
      rw[Gs this]at hx;simp at hx
theorem J1(hs:eQ G s w)(he:jx G bX a.tmps){t:TypeId}{p x:AV}{pv:Value}{lo hi mx:Option Operand}(hp:V G p pv)(h:nf P t p bX lo hi mx s=some x):
  tS P G s w (Instr.sliceAt t pv (lo.map a.eval) (hi.map a.eval) (mx.map a.eval)) x s:=by
 unfold nf at h;split at h
 ·rename_i b;split at h
  case isFalse=>cases h
  rename_i hc;split at h
  case h_2=>cases h
  rename_i l h' hl hh;split at h
  case isFalse=>cases h
  rename_i SH;cases h;cases hp;obtain⟨hc1,hc2⟩:=hc;cases mx with
  |some _=>cases hc2
  |none=>
   have hb:=jl (P:=P) (w:=w) (Yy:=false) (cap:=b.size) he hl hh (.inl ⟨rfl,rfl⟩) SH.1 SH.2 (eD _) (λ_=>SH.2);refine ec hs (v:=.string (b.extract l h')) ?_ (.str _);simp only[Su]at hb;simp[Instr.sliceAt,Instr.slice,run_underlying (Cr hc1),hb]
 ·rename_i full elems;split at h
  case h_2=>cases h
  rename_i e hu;split at h
  ·rename_i l h' hl hh;split at h
   case isFalse=>cases h
   rename_i hc;cases h;exact Eg hs he hp hu hl hh hc.1 hc.2.1 hc.2.2.1 hc.2.2.2 (.inl ⟨rfl,rfl⟩)
  ·rename_i l h' m0 hl hh;split at h
   case h_2=>cases h
   rename_i m hm;split at h
   case isFalse=>cases h
   rename_i hc;cases h;exact Eg hs he hp hu hl hh hc.1 (by omega) hc.2.2.2.2.1 hc.2.2.2.2.2 (.inr ⟨m,rfl,hc.2.2.2.1,λd=>by simpa[gN]using hm,hc.2.1,hc.2.2.1,rfl⟩)
  ·cases h
 ·rename_i id b9 len;split at h
  case h_2=>cases h
  rename_i e hu;split at h
  case h_2=>cases h
  rename_i cN elems hg;have main: ∀{l h':Nat},gN bX lo 0=some l->gN bX hi len=some h'->l<=h'->h'<=len->dF P e=some cN->
    ((mx=none)\/ ∃m,mx.isSome=true/\hi.isSome=true/\(∀d,gN bX mx d=some m)/\h'<=m/\m<=len)->
    tS P G s w (Instr.sliceAt t pv (lo.map a.eval) (hi.map a.eval) (mx.map a.eval)) (.ms id (b9+l) (h'-l)) s:=by
   intro l h' hl hh h1 h2 eG hm;cases hp with
   |ia _ _ cap cn hc=>
    subst hc;obtain rfl:h'=0:=by omega
    obtain rfl:l=0:=by omega
    have kT:(Instr.sliceBounds true 0 0 (lo.map a.eval) (hi.map a.eval) (mx.map a.eval)).run P w=.ok (0,0,0) w:=by
     rcases hm with rfl|⟨m,m1,m2,m3,m4,m5⟩
     ·exact jl he hl hh (.inl ⟨rfl,rfl⟩) h1 (eD _) (eD _) (λ_=>eD _)
     ·obtain rfl:m=0:=by omega
      exact jl he hl hh (.inr ⟨m1,m2,m3 _⟩) h1 m4 (eD _) (λe=>by subst e;cases m1)
    exact ec hs (v:=.slice cn 0 0) (by simp[Instr.sliceAt,Instr.slice,run_underlying (fO hu),kT,eI eG]) (.ia _ _ _ _ rfl)
   |ms _ _ _ cap r addr ho eP fB gY=>
    obtain⟨o,e2,e3⟩:=hs.at hg ho;cases e3 with
    |cells _ _ cs ty s8 eE h0 ja jH Ef hV=>
     obtain⟨m,kT,PH,hmc⟩: ∃m,(Instr.sliceBounds true len cap (lo.map a.eval) (hi.map a.eval) (mx.map a.eval)).run P w=.ok (l,h',m) w/\h'<=m/\m<=cap:=by
      rcases hm with rfl|⟨m,m1,m2,m3,m4,m5⟩
      ·exact⟨cap,jl he hl hh (.inl ⟨rfl,rfl⟩) h1 (by omega) (eD _) (λ_=>by omega),by omega,eD _⟩
      ·exact⟨m,jl he hl hh (.inr ⟨m1,m2,m3 _⟩) h1 m4 (by omega) (λe=>by subst e;cases m1),m4,by omega⟩
     subst eE;have run:(Instr.sliceAt t (.slice (some ⟨r.block,addr,none⟩) len cap) (lo.map a.eval) (hi.map a.eval) (mx.map a.eval)).run P w=
       .ok (.slice (some ⟨r.block,if m=l then addr else addr+l*r.cN,none⟩) (h'-l) (m-l)) w:=by
      simp[Instr.sliceAt,Instr.slice,run_underlying (fO hu),kT,eI eG,nW];split<;>rfl
     refine ec hs run (.ms _ _ _ _ r _ ho (by omega) ?_ λvz=>?_)
     ·refine xz ?_ fB;exact Sv (AM _ (by omega)) _
     ·rw[dY (by omega),gY (by omega),vm,DP]
  split at h
  ·rename_i l h' hl hh;split at h
   case isFalse=>cases h
   rename_i hc;cases h;exact main hl hh hc.1 hc.2.1 hc.2.2 (.inl rfl)
  ·rename_i l h' m0 hl hh;split at h
   case h_2=>cases h
   rename_i m hm;split at h
   case isFalse=>cases h
   rename_i hc;cases h;exact main hl hh hc.1 (by omega) hc.2.2.2.2 (.inr ⟨m,rfl,hc.2.2.2.1,λd=>by simpa[gN]using hm,hc.2.1,hc.2.2.1⟩)
  ·cases h
 ·rename_i id b9 len cap;split at h
  case h_2=>cases h
  rename_i e hu;split at h
  case h_2=>cases h
  rename_i cN elems hg;split at h
  case h_2=>cases h
  rename_i l h' hl hh;split at h
  case isFalse=>cases h
  rename_i hc;obtain⟨h1,h2,eG⟩:=hc;cases h;cases hp with
  |nI _ _ cn=>
   obtain rfl:h'=0:=by omega
   obtain rfl:l=0:=by omega
   have kT:=jl (P:=P) (w:=w) (Yy:=true) (len:=0) (cap:=0) (mx:=none) he hl hh (.inl ⟨rfl,rfl⟩) h1 (eD _) (eD _) (λ_=>eD _);simp only[Su]at kT;exact ec hs (v:=.slice cn 0 0) (by simp[Instr.sliceAt,Instr.slice,run_underlying (fO hu),kT,eI eG]) (.nI _ _ _)
  |mc _ _ _ _ r addr ho eP fB gY=>
   obtain⟨o,e2,e3⟩:=hs.at hg ho;cases e3 with
   |cells _ _ cs ty s8 eE h0 ja jH Ef hV=>
    have kT:=jl (P:=P) (w:=w) (Yy:=true) (len:=len) (cap:=cap) (mx:=none) he hl hh (.inl ⟨rfl,rfl⟩) h1 h2 (eD _) (λ_=>h2);simp only[Su]at kT;subst eE;have run:(Instr.sliceAt t (.slice (some ⟨r.block,addr,none⟩) len cap) (lo.map a.eval) (hi.map a.eval) none).run P w=
      .ok (.slice (some ⟨r.block,if cap=l then addr else addr+l*r.cN,none⟩) (h'-l) (cap-l)) w:=by
     simp[Instr.sliceAt,Instr.slice,run_underlying (fO hu),kT,eI eG,nW];split<;>rfl
    refine ec hs run (.mc _ _ _ _ r _ ho (by omega) ?_ λvz=>?_)
    ·refine xz ?_ fB;exact Sv (AM _ (by omega)) _
    ·rw[dY (by omega),gY (by omega),vm,DP]
 ·cases h
end
end Go.Am
end
section
namespace Go.Am
open Go.RowKit
section
variable {P:Program} {G:cx} {s s':St} {w:World} {bX:Env} {a:Act}
theorem eQ.move{w':World}(h:eQ G s w){id:Nat}{blk sX:gU}{r r':ua}{o:Obj}(hg:bJ s.heap id=some blk)(ho:G.own id=some r)(hb:r'.block=r.block)
  (hs:w'.heap.size=w.heap.size) (ZZ:w'.os=w.os) (ht:w'.tape=w.tape) (sC:w'.output=w.output)
  (hk: ∀b,b≠r.block->w'.heap[b]? =w.heap[b]?) (hw:w'.heap[r.block]? =some o) (hh:Holds (G.put s.cr r') r' sX o) (sK:blk≠ .gK) (Pa:w.drawn<=w'.drawn:=by exact eD _):
  eQ (G.put s.cr r') ⟨(s.cr,sX)::eN s.heap id,s.cr+1⟩ w'/\Ext G s w (G.put s.cr r') ⟨(s.cr,sX)::eN s.heap id,s.cr+1⟩ w':=by
 have eP:sJ G (G.put s.cr r'):=.put (h.cE _ (eD _));have eU:id≠s.cr:=λe=>by rw[h.cE id (by omega)]at ho;cases ho
 have jF: ∀i b,bJ ((s.cr,sX)::eN s.heap id) i=some b->(i=s.cr/\b=sX)\/(i≠s.cr/\i≠id/\bJ s.heap i=some b):=λi b hi=>by
  simp only[di,cZ]at hi;split at hi
  ·cases hi;exact .inl ⟨by omega,rfl⟩
  ·rename_i h1;rw[fU]at hi;split at hi
   ·cases hi
   ·exact .inr ⟨by omega,by omega,hi⟩
 have iu: ∀i,i≠s.cr->(G.put s.cr r').own i=G.own i:=λi eU=>by simp[cx.put,eU]
 have nb:(G.put s.cr r').own s.cr=some r':=by simp[cx.put]
 refine⟨⟨?_,?_,?_,?_,?_,?_⟩,⟨eP,ZZ,ht,sC,by omega,?_,?_,?_,?_,by simp,?_,λi hl qo=>by rw[iu i (by omega)];exact qo,Pa⟩⟩
 ·refine⟨λb i v hi=>?_,.mono eP.ir h.kS.2⟩;have eU:b≠r.block:=λe=>by subst e;have h2:=h.clear id _ r i hg ho;rw[show G.ir r.block i=some v from hi]at h2;cases h2
  have:=h.ir b i v hi;rwa[World.cell?_of_block (w:=w) (hk b eU)]
 ·intro i b hi;rcases jF i b hi with⟨rfl,rfl⟩|⟨n1,n2,oM⟩
  ·exact .inl ⟨r',o,nb,by rw[hb];exact hw,hh⟩
  ·rcases h.heap i b oM with⟨r1,o1,e1,e2,e3⟩|⟨e1,e2⟩
   ·exact .inl ⟨r1,o1,by rw[iu _ n1];exact e1,by rw[hk _ (h.apart i id b _ r1 r oM hg e1 ho n2)];exact e2,e3.mono eP⟩
   ·exact .inr ⟨by rw[iu _ n1];exact e1,e2⟩
 ·intro i i' b b' r1 r2 h1 h2 o1 o2 nH;rcases jF i b h1 with⟨rfl,rfl⟩|⟨n1,m1,g1⟩<;>rcases jF i' b' h2 with⟨rfl,rfl⟩|⟨n2,m2,g2⟩
  ·exact absurd rfl nH
  ·rw[nb]at o1;cases o1;rw[iu _ n2]at o2;rw[hb];exact h.apart id i' _ b' r r2 hg g2 ho o2 (λe=>m2 e.symm)
  ·rw[nb]at o2;cases o2;rw[iu _ n1]at o1;rw[hb];exact h.apart i id b _ r1 r g1 hg o1 ho m1
  ·rw[iu _ n1]at o1;rw[iu _ n2]at o2;exact h.apart i i' b b' r1 r2 g1 g2 o1 o2 nH
 ·intro i b r1 j hi qo;rcases jF i b hi with⟨rfl,rfl⟩|⟨n1,m1,g1⟩
  ·rw[nb]at qo;cases qo;rw[hb];exact h.clear id _ r j hg ho
  ·rw[iu _ n1]at qo;exact h.clear i b r1 j g1 qo
 ·intro i hi;rw[iu i (by simp at hi;omega)];exact h.cE i (by simp at hi;omega)
 ·intro i b hi;show i<s.cr+1;rcases jF i b hi with⟨rfl,rfl⟩|⟨n1,m1,g1⟩
  ·omega
  ·have:=h.lt i b g1;omega
 ·intro b oM hn;exact hk b λe=>hn ⟨id,blk,r,hg,ho,e.symm⟩
 ·intro b o v hi;exact .inl hi
 ·intro i r1 hi;simp only[cx.put]at hi;split at hi
  ·cases hi;exact .inr (.inr ⟨id,blk,r,hg,ho,hb.symm⟩)
  ·exact .inl hi
 ·intro i b hi;rcases jF i b hi with⟨rfl,rfl⟩|⟨_,_,g⟩
  ·exact .inr (eD _)
  ·exact .inl ⟨_,g⟩
 ·intro i hi;have h1:i≠s.cr:=λe=>by
   subst e;have:=h.lt s.cr _ hi;omega
  have h2:i≠id:=λe=>by subst e;rw[hg]at hi;cases hi;exact sK rfl
  simp only[di,cZ];rw[dY (λe=>h1 e.symm),fU,dY (λe=>h2 e.symm)];exact hi
theorem VL.append{xs ys:List AV}{vs us:Array Value}(h:VL G xs vs)(k:VL G ys us):VL G (xs++ys) (vs++us):=by
 refine⟨by simp[h.1,k.1],λi x y hx hy=>?_⟩;by_cases hi:i<xs.length
 ·rw[nD hi]at hx;rw[Yn (by rw[<-h.1];exact hi)]at hy;exact h.2 i x y hx hy
 ·rw[qb (by omega)]at hx;rw[Array.getElem?_append_right (by rw[<-h.1];omega),<-h.1]at hy;exact k.2 _ x y hx hy
theorem fV(hs:eQ G s w){e:TypeId}{x:AV}{xv:Value}(hx:V G x xv){l:List AV}(hl:gh x s=some l){sz:Nat}(eG:dF P e=some sz)(hf:lx P e x s):
  (∀y∈l,y.cells.length=sz)/\(∀y∈dB l,y.dn=true)/\(Builtin.lenOf xv).run P w=.ok l.length w/\
  ∀n,n<=l.length-> ∃vs,(∀w',(∀a,w'.cell? a=w.cell? a)->(Builtin.firstCells sz n xv).run P w'=.ok vs w')/\VL G (dB (l.take n)) vs:=by
 have load: ∀(b o n:Nat)(cs:List AV),qx G w b o cs->n<=cs.length-> ∃vs,(∀w',(∀a,w'.cell? a=w.cell? a)->(loadCells ⟨b,o,none⟩ n).run P w'=.ok vs w')/\VL G (cs.take n) vs:=by
  intro b o n cs ht hn;obtain⟨vs,e1,e2⟩:=ht.loadCells (P:=P) hn;refine⟨vs,λw' hw=>?_,e2⟩;have AF:qx G w' b o cs:=λk x hx=>by rw[hw];exact ht k x hx
  obtain⟨vs',e1',Vj⟩:=AF.loadCells (P:=P) hn;have:vs'=vs:=by
   have q: ∀w':World,(∀a,w'.cell? a=w.cell? a)->(loadCells ⟨b,o,none⟩ n).run P w'=.ok ((List.range n).map λj=>(w.cell? ⟨b,o+j,none⟩).getD undef).toArray w':=λw' hw=>by
    refine run_loadCells w' _ n _ λj hj=>?_;rw[nW,hw];obtain⟨v,hv,_⟩:=ht j cs[j] (dR (by omega));simp[hv]
   rw[q w' hw]at e1';rw[q w λ_=>rfl]at e1;cases e1;cases e1';rfl
  rw[e1',this]
 unfold gh at hl;split at hl
 ·rename_i full elems;cases hl;obtain⟨cn,cap,rfl,eP,_,hb,hz⟩:=V.qy hx;rcases hz with rfl|⟨b,off,cN,val,rfl,eE,jH,iw,hV⟩
  ·refine⟨by simp,by simp[dB],by simp[Builtin.lenOf],λn hn=>⟨#[],λw' _=>?_,by simp[dB];exact⟨rfl,by simp⟩⟩⟩;have:n=0:=by simpa using hn
   subst this;cases cn<;>simp[Builtin.firstCells,loadCells,loadCellsFrom]
  ·have jz: ∀y∈l,y.cells.length=sz:=λy hy=>by
    have:=Im (P:=P) hf eE (λe=>by subst e;cases hy);rw[eG]at this;cases this;exact eE y hy
   refine⟨jz,jH,by simp[Builtin.lenOf],λn hn=>?_⟩;obtain⟨vs,e1,e2⟩:=load b off (n*sz) _ (JZ hs eE iw hV) (by rw[dO jz];exact AM _ hn);refine⟨vs,λw' hw=>by simpa[Builtin.firstCells]using e1 w' hw,?_⟩;have:(dB l).take (n*sz)=dB (l.take n):=by
    conv=>lhs;rw[<-Lk n l,dN]
    rw[Yo (by rw[dO (cN:=sz) λy hy=>jz y (xA hy)];simp[O1 hn])];rw[tP (by rw[dO (cN:=sz) λy hy=>jz y (xA hy)];simp[O1 hn])]
   rwa[this]at e2
 ·rename_i id b9 len;split at hl
  case h_2=>cases hl
  rename_i cN elems hg;split at hl
  case isFalse=>cases hl
  rename_i fB;cases hl;have Eh:dF P e=some cN:=by simpa[lx,hg]using hf
  rw[eG]at Eh;cases Eh;cases hx with
  |ia _ _ cap cn hc=>
   subst hc;rw[Re];refine⟨by simp,by simp[dB],by simp[Builtin.lenOf],λn hn=>?_⟩;obtain rfl:n=0:=by simpa using hn
   refine⟨#[],λw' _=>?_,by simp[dB];exact⟨rfl,by simp⟩⟩;cases cn<;>simp[Builtin.firstCells,loadCells,loadCellsFrom]
  |ms _ _ _ cap r addr ho eP PI gY=>
   obtain⟨o,e2,e3⟩:=hs.at hg ho;cases e3 with
   |cells _ _ cs ty s8 eE h0 ja jH Ef hV=>
    subst eE;have dJ:((elems.drop b9).take len).length=len:=by simp;omega
    have kM: ∀y∈(elems.drop b9).take len,y∈elems:=λy hy=>D4 (xA hy);refine⟨λy hy=>ja y (kM y hy),λx hx=>jH x (by
     rw[dB,tK]at hx |-
     obtain⟨y,hy,hx⟩:=hx;exact⟨y,kM y hy,hx⟩),by simp[Builtin.lenOf];omega,λn hn=>?_⟩
    rw[dJ]at hn;rw[Sw,O1 hn];by_cases SG:n=0
    ·subst SG;exact⟨#[],λw' _=>by simp[Builtin.firstCells,loadCells,loadCellsFrom],by simp[dB];exact⟨rfl,by simp⟩⟩
    ·have ht:qx G w r.block (r.cn+b9*r.cN) (dB (elems.drop b9)):=by
      intro k x hx;have hd: ∀y∈elems.drop b9,y.cells.length=r.cN:=λy hy=>ja y (D4 hy);have hk:(dB elems)[b9*r.cN+k]? =some x:=by
       have h3:=iP (n:=elems.length) (l:=b9) ja h0 (k:=k) (x:=x) (by rw[AN];exact hx);exact h3
      obtain⟨v,q1,q2⟩:=hV _ x hk;exact⟨v,by simp only[World.cell?,e2];rw[DP];simpa using q1,q2⟩
     have hd: ∀y∈elems.drop b9,y.cells.length=r.cN:=λy hy=>ja y (D4 hy);obtain⟨vs,q1,q2⟩:=load r.block (r.cn+b9*r.cN) (n*r.cN) _ ht (by rw[dO hd];exact AM _ (by simp;omega));refine⟨vs,λw' hw=>by rw[gY (by omega)];simpa[Builtin.firstCells]using q1 w' hw,?_⟩;have AG: ∀y∈(elems.drop b9).take n,y.cells.length=r.cN:=λy hy=>hd y (xA hy);have hln:((elems.drop b9).take n).length=n:=by simp;omega
     have:(dB (elems.drop b9)).take (n*r.cN)=dB ((elems.drop b9).take n):=by
      conv=>lhs;rw[<-Lk n (elems.drop b9),dN]
      rw[Yo (by rw[dO AG,hln];exact eD _)];rw[tP (by rw[dO AG,hln];exact eD _)]
     rwa[this]at q2
 ·cases hl
end
end Go.Am
end
