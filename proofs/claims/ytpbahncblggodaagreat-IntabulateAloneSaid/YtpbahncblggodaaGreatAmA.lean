/-
  The logic AM, A: abstract values and states; operations; moves; the rules; soundness of the first operations.
  Own work. No Go text.
-/
import Derived.RangeFuncLeaves
import Derived.OrdersIn
import Derived.Laws.Cells
import Derived.Laws.CopyRow
import Derived.Laws.World
import Derived.RowKit3
import Derived.Below
import Derived.Laws.Append
set_option linter.all false
section
namespace Go.Am
open Go.RowKit
inductive AV where
 |bool (b:Bool)
 |int (k:IntKind) (n:Int)
 |str (s:ByteArray)
 |nilp
 |nilf
 |sl (full:Bool) (elems:List AV)
 |ip (cells:List AV)
 |mp (id el off:Nat)
 |ms (id start len:Nat)
 |mc (id start len cap:Nat)
 |fn (f:FuncId) (caps:List AV)
 |yld (id:Nat)
 |agg (cells:List AV)
 |tup (vs:List AV)
 |any
 deriving Inhabited
abbrev AV.i(n:Int):AV:=.int .i64 n
def AV.cells:AV->List AV
 |.agg cs=>cs
 |v=>[v]
def AV.isAgg:AV->Bool
 |.agg _=>true
 |_=>false
def AV.scalar:AV->Bool
 |.agg _|.tup _|.any=>false
 |_=>true
def flat(l:List AV):List AV:=l.flatMap AV.cells
structure Reg where
 block:Nat
 base:Nat
 esz:Nat
 size:Nat
structure Ghost where
 imm:Nat->Nat->Option Value
 own:Nat->Option Reg
inductive V (G:Ghost):AV->Value->Prop
 |any (v:Value):V G .any v
 |bool (b:Bool):V G (.bool b) (.bool b)
 |int (k:IntKind) (n:Int):V G (.int k n) (.int k n)
 |str (s:ByteArray):V G (.str s) (.string s)
 |nilp:V G .nilp (.pointer none)
 |nilf:V G .nilf .nilFunc
 |slnil (full:Bool) (base:Option Addr) (cap:Nat) (hf:full=true->cap=0) (hb:base=none->cap=0):V G (.sl full []) (.slice base 0 cap)
 |sl (full:Bool) (elems:List AV) (b off esz cap:Nat) (val:Nat->Value) (hcap:elems.length<=cap) (hfull:full=true->cap=elems.length)
  (hesz: ∀e∈elems,e.cells.length=esz) (hsc: ∀x∈flat elems,x.scalar=true) (himm: ∀k,k<elems.length*esz->G.imm b (off+k)=some (val k))
  (hV: ∀k x,(flat elems)[k]? =some x->V G x (val k)):V G (.sl full elems) (.slice (some ⟨b,off,none⟩) elems.length cap)
 |ip (cells:List AV) (b off:Nat) (val:Nat->Value) (himm: ∀k,k<cells.length->G.imm b (off+k)=some (val k))
  (hV: ∀k x,cells[k]? =some x->V G x (val k)):V G (.ip cells) (.pointer (some ⟨b,off,none⟩))
 |mp (id el off:Nat) (r:Reg) (h:G.own id=some r):V G (.mp id el off) (.pointer (some ⟨r.block,r.base+el*r.esz+off,none⟩))
 |ms (id start len cap:Nat) (r:Reg) (addr:Nat) (h:G.own id=some r) (hle:len<=cap) (hin:r.base+(start+cap)*r.esz<=r.size)
  (haddr:0<cap->addr=r.base+start*r.esz):V G (.ms id start len) (.slice (some ⟨r.block,addr,none⟩) len cap)
 |msnil (id start cap:Nat) (base:Option Addr) (hc:cap=0):V G (.ms id start 0) (.slice base 0 cap)
 |mc (id start len cap:Nat) (r:Reg) (addr:Nat) (h:G.own id=some r) (hle:len<=cap) (hin:r.base+(start+cap)*r.esz<=r.size)
  (haddr:0<cap->addr=r.base+start*r.esz):V G (.mc id start len cap) (.slice (some ⟨r.block,addr,none⟩) len cap)
 |mcnil (id start:Nat) (base:Option Addr):V G (.mc id start 0 0) (.slice base 0 0)
 |fn (f:FuncId) (caps:List AV) (vs:Array Value) (hlen:caps.length=vs.size) (h: ∀(i:Nat)x y,caps[i]? =some x->vs[i]? =some y->V G x y):
  V G (.fn f caps) (.func (.func f) #[] vs)
 |yld (id:Nat) (r:Reg) (h:G.own id=some r):V G (.yld id) (.func (.yield r.block) #[] #[])
 |agg (cs:List AV) (vs:Array Value) (hlen:cs.length=vs.size) (h: ∀(i:Nat)x y,cs[i]? =some x->vs[i]? =some y->V G x y):V G (.agg cs) (.agg vs)
 |tup (cs:List AV) (vs:Array Value) (hlen:cs.length=vs.size) (h: ∀(i:Nat)x y,cs[i]? =some x->vs[i]? =some y->V G x y):V G (.tup cs) (.tuple vs)
def VL(G:Ghost)(cs:List AV)(vs:Array Value):Prop:=cs.length=vs.size/\ ∀(i:Nat)x y,cs[i]? =some x->vs[i]? =some y->V G x y
structure GLe (G G':Ghost):Prop where
 imm: ∀b o v,G.imm b o=some v->G'.imm b o=some v
 own: ∀id r,G.own id=some r->G'.own id=some r
theorem GLe.refl(G:Ghost):GLe G G:=⟨λ_ _ _ h=>h,λ_ _ h=>h⟩
theorem GLe.trans{A B C:Ghost}(h:GLe A B)(k:GLe B C):GLe A C:=⟨λ_ _ _ x=>k.imm _ _ _ (h.imm _ _ _ x),λ_ _ x=>k.own _ _ (h.own _ _ x)⟩
theorem V.mono{G G':Ghost}(hG:GLe G G'){x:AV}{v:Value}(h:V G x v):V G' x v:=by
 induction h with
 |any v=>exact .any v
 |bool b=>exact .bool b
 |int k n=>exact .int k n
 |str s=>exact .str s
 |nilp=>exact .nilp
 |nilf=>exact .nilf
 |slnil full base cap hf hb=>exact .slnil full base cap hf hb
 |sl full elems b off esz cap val hcap hfull hesz hsc himm _ ih=>exact .sl full elems b off esz cap val hcap hfull hesz hsc (λk hk=>hG.imm _ _ _ (himm k hk)) ih
 |ip cells b off val himm _ ih=>exact .ip cells b off val (λk hk=>hG.imm _ _ _ (himm k hk)) ih
 |mp id el off r h=>exact .mp id el off r (hG.own _ _ h)
 |ms id start len cap r addr h hle hin ha=>exact .ms id start len cap r addr (hG.own _ _ h) hle hin ha
 |msnil id start cap base hc=>exact .msnil id start cap base hc
 |mc id start len cap r addr h hle hin ha=>exact .mc id start len cap r addr (hG.own _ _ h) hle hin ha
 |mcnil id start base=>exact .mcnil id start base
 |fn f caps vs hlen _ ih=>exact .fn f caps vs hlen ih
 |yld id r h=>exact .yld id r (hG.own _ _ h)
 |agg cs vs hlen _ ih=>exact .agg cs vs hlen ih
 |tup cs vs hlen _ ih=>exact .tup cs vs hlen ih
theorem VL.mono{G G':Ghost}(hG:GLe G G'){cs:List AV}{vs:Array Value}(h:VL G cs vs):VL G' cs vs:=⟨h.1,λi x y hx hy=>(h.2 i x y hx hy).mono hG⟩
abbrev Env:=List (Nat×AV)
def eget{β:Type}:List (Nat×β)->Nat->Option β
 | [],_=>none
 |(k,x)::r,i=>bif Nat.beq k i then some x else eget r i
def eset{β:Type}:List (Nat×β)->Nat->β->List (Nat×β)
 | [],i,x=>[(i,x)]
 |(k,y)::r,i,x=>bif Nat.beq k i then(i,x)::r else(k,y)::eset r i x
theorem beqIf{α:Type}(k i:Nat)(x y:α):(bif Nat.beq k i then x else y)=if k=i then x else y:=by
 by_cases h:k=i
 ·subst h;rw[if_pos rfl,show Nat.beq k k=true from Nat.beq_refl k];rfl
 ·rw[if_neg h]
  have:Nat.beq k i=false:=by
   cases hb:Nat.beq k i with
   |false=>rfl
   |true=>exact absurd (Nat.eq_of_beq_eq_true hb) h
  rw[this];rfl
theorem egetN{β:Type}(i:Nat):eget ([]:List (Nat×β)) i=none:=rfl
theorem egetC{β:Type}(k:Nat)(x:β)(r:List (Nat×β))(i:Nat):eget ((k,x)::r) i=if k=i then some x else eget r i:=beqIf k i _ _
theorem esetN{β:Type}(i:Nat)(x:β):eset [] i x=[(i,x)]:=rfl
theorem esetC{β:Type}(k:Nat)(y:β)(r:List (Nat×β))(i:Nat)(x:β):eset ((k,y)::r) i x=if k=i then(i,x)::r else(k,y)::eset r i x:=beqIf k i _ _
def edel{β:Type}:List (Nat×β)->Nat->List (Nat×β)
 | [],_=>[]
 |(k,y)::r,i=>if k=i then edel r i else(k,y)::edel r i
theorem get_set{β:Type}(l:List (Nat×β))(i j:Nat)(x:β):eget (eset l i x) j=if i=j then some x else eget l j:=by
 induction l with
 |nil=>simp[esetN,esetC,egetN,egetC]
 |cons a r ih=>
  obtain⟨k,y⟩:=a
  simp only[esetN,esetC,egetN,egetC]
  split
  ·rename_i h;subst h;simp only[egetN,egetC];split<;>rfl
  ·rename_i h;simp only[egetN,egetC,ih];split
   ·rename_i h2;subst h2;rw[if_neg (by omega)]
   ·rfl
theorem get_del{β:Type}(l:List (Nat×β))(i j:Nat):eget (edel l i) j=if i=j then none else eget l j:=by
 induction l with
 |nil=>simp[edel,egetN,egetC]
 |cons a r ih=>
  obtain⟨k,y⟩:=a
  simp only[edel]
  split
  ·rename_i h;subst h;simp only[egetN,egetC,ih];split<;>rfl
  ·rename_i h;simp only[egetN,egetC,ih];split
   ·rename_i h2;subst h2;rw[if_neg (by omega)]
   ·rfl
structure ALoop where
 env:Env
 ntmps:Nat
 params:List Tmp
 assign:Code
 body:Code
 state:LoopState
 pending:Option Code
inductive Blk where
 |cells (esz:Nat) (elems:List AV)
 |loop (l:ALoop)
 |dfr
structure St where
 heap:List (Nat×Blk)
 cnt:Nat
def VEnv(G:Ghost)(env:Env)(tmps:Array Value):Prop:= ∀t x,eget env t=some x->t<tmps.size/\V G x (tmps.getD t undef)
theorem VEnv.mono{G G':Ghost}(hG:GLe G G'){env:Env}{tmps:Array Value}(h:VEnv G env tmps):VEnv G' env tmps:=λt x hx=>⟨(h t x hx).1,(h t x hx).2.mono hG⟩
inductive Holds (G:Ghost) (r:Reg):Blk->Obj->Prop
 |cells (esz:Nat) (elems:List AV) (cs:Array Value) (e:TypeId) (hsz:cs.size=r.size) (hesz:r.esz=esz) (h0:0<esz)
  (hel: ∀x∈elems,x.cells.length=esz) (hsc: ∀x∈flat elems,x.scalar=true) (hin:r.base+elems.length*esz<=r.size)
  (hV: ∀k x,(flat elems)[k]? =some x-> ∃v,cs[r.base+k]? =some v/\V G x v):Holds G r (.cells esz elems) (.cells cs e (0,0))
 |loop (l:ALoop) (fn:FuncId) (tmps:Array Value) (d:Nat) (hsz:tmps.size=l.ntmps) (hV:VEnv G l.env tmps):
  Holds G r (.loop l) (.loop {state:=l.state,pending:=l.pending,fn:=fn,tmps:=tmps,params:=l.params.toArray,assign:=l.assign,body:=l.body,defers:=d})
 |dfr:Holds G r .dfr (.deferred (some []))
theorem Holds.mono{G G':Ghost}(hG:GLe G G'){r:Reg}{b:Blk}{o:Obj}(h:Holds G r b o):Holds G' r b o:=by
 cases h with
 |cells esz elems cs e hsz hesz h0 hel hsc hin hV=>exact .cells esz elems cs e hsz hesz h0 hel hsc hin λk x hx=>let⟨v,a,b⟩:=hV k x hx;⟨v,a,b.mono hG⟩
 |loop l fn tmps d hsz hV=>exact .loop l fn tmps d hsz (hV.mono hG)
 |dfr=>exact .dfr
def Owned(G:Ghost)(s:St)(b:Nat):Prop:= ∃id blk r,eget s.heap id=some blk/\G.own id=some r/\r.block=b
structure Sim (G:Ghost) (s:St) (w:World):Prop where
 imm: ∀b o v,G.imm b o=some v->w.cell? ⟨b,o,none⟩=some v
 heap: ∀id blk,eget s.heap id=some blk->(∃r o,G.own id=some r/\w.heap[r.block]? =some o/\Holds G r blk o)\/(G.own id=none/\ ∃esz,0<esz/\blk=.cells esz [])
 apart: ∀id id' blk blk' r r',eget s.heap id=some blk->eget s.heap id'=some blk'->G.own id=some r->G.own id'=some r'->id≠id'->r.block≠r'.block
 clear: ∀id blk r o,eget s.heap id=some blk->G.own id=some r->G.imm r.block o=none
 fresh: ∀id,s.cnt<=id->G.own id=none
 lt: ∀id blk,eget s.heap id=some blk->id<s.cnt
theorem Sim.at{G:Ghost}{s:St}{w:World}(h:Sim G s w){id:Nat}{blk:Blk}{r:Reg}(hg:eget s.heap id=some blk)(ho:G.own id=some r): ∃o,w.heap[r.block]? =some o/\Holds G r blk o:=by
 rcases h.heap id blk hg with⟨r',o,e1,e2,e3⟩|⟨e,_⟩
 ·rw[ho]at e1;cases e1;exact⟨o,e2,e3⟩
 ·rw[ho]at e;cases e
structure Ext (G:Ghost) (s:St) (w:World) (G':Ghost) (s':St) (w':World):Prop where
 le:GLe G G'
 os:w'.os=w.os
 tape:w'.tape=w.tape
 output:w'.output=w.output
 size:w.heap.size<=w'.heap.size
 keep: ∀b,b<w.heap.size-> ¬Owned G s b->w'.heap[b]? =w.heap[b]?
 immNew: ∀b o v,G'.imm b o=some v->G.imm b o=some v\/w.heap.size<=b\/Owned G s b
 ownNew: ∀id r,G'.own id=some r->G.own id=some r\/(w.heap.size<=r.block\/Owned G s r.block)
 ids: ∀id blk,eget s'.heap id=some blk->(∃blk0,eget s.heap id=some blk0)\/s.cnt<=id
 cnt:s.cnt<=s'.cnt
 dfr: ∀id,eget s.heap id=some .dfr->eget s'.heap id=some .dfr
 stay: ∀id,id<s.cnt->G.own id=none->G'.own id=none
 drawn:w.drawn<=w'.drawn
theorem Ext.refl(G:Ghost)(s:St)(w:World):Ext G s w G s w:=
 ⟨.refl G,rfl,rfl,rfl,Nat.le_refl _,λ_ _ _=>rfl,λ_ _ _ h=>.inl h,λ_ _ h=>.inl h,λ_ _ h=>.inl ⟨_,h⟩,Nat.le_refl _,λ_ h=>h,λ_ _ h=>h,Nat.le_refl _⟩
theorem Ext.trans{G0 G1 G2:Ghost}{s0 s1 s2:St}{w0 w1 w2:World}(h0:Sim G0 s0 w0)(a:Ext G0 s0 w0 G1 s1 w1)(b:Ext G1 s1 w1 G2 s2 w2):
  Ext G0 s0 w0 G2 s2 w2:=by
 have own: ∀x,Owned G1 s1 x->w0.heap.size<=x\/Owned G0 s0 x:=by
  rintro x ⟨id,blk,r,hg,ho,rfl⟩
  rcases a.ownNew id r ho with h|h
  ·rcases a.ids id blk hg with⟨blk0,hb⟩|hge
   ·exact .inr ⟨id,blk0,r,hb,h,rfl⟩
   ·rw[h0.fresh id hge]at h;cases h
  ·exact h
 refine⟨a.le.trans b.le,b.os.trans a.os,b.tape.trans a.tape,b.output.trans a.output,Nat.le_trans a.size b.size,?_,?_,?_,?_,Nat.le_trans a.cnt b.cnt,λid h=>b.dfr id (a.dfr id h),λid hl h=>b.stay id (Nat.lt_of_lt_of_le hl a.cnt) (a.stay id hl h),Nat.le_trans a.drawn b.drawn⟩
 ·intro x hx hn
  rw[b.keep x (Nat.lt_of_lt_of_le hx a.size) (λh=>(own x h).elim (λh=>by omega) hn)]
  exact a.keep x hx hn
 ·intro x o v h
  rcases b.immNew x o v h with h|h|h
  ·exact a.immNew x o v h
  ·exact .inr (.inl (Nat.le_trans a.size h))
  ·exact .inr (own x h)
 ·intro id r h
  rcases b.ownNew id r h with h|h|h
  ·exact a.ownNew id r h
  ·exact .inr (.inl (Nat.le_trans a.size h))
  ·exact .inr (own _ h)
 ·intro id blk h
  rcases b.ids id blk h with⟨blk1,h⟩|h
  ·exact a.ids id blk1 h
  ·exact .inr (Nat.le_trans a.cnt h)
end Go.Am
end
section
namespace Go.Am
open Go.RowKit
theorem cell_lt{w:World}{b o:Nat}{v:Value}(h:w.cell? ⟨b,o,none⟩=some v):b<w.heap.size:=by
 unfold World.cell? at h
 split at h
 ·rename_i hb;exact(Array.getElem?_eq_some_iff.1 hb).1
 ·cases h
theorem Sim.imm_lt{G:Ghost}{s:St}{w:World}(h:Sim G s w){b o:Nat}{v:Value}(hi:G.imm b o=some v):b<w.heap.size:=cell_lt (h.imm _ _ _ hi)
theorem Sim.own_lt{G:Ghost}{s:St}{w:World}(h:Sim G s w){id:Nat}{blk:Blk}{r:Reg}(hg:eget s.heap id=some blk)(ho:G.own id=some r):r.block<w.heap.size:=by
 obtain⟨o,e2,_⟩:=h.at hg ho
 exact(Array.getElem?_eq_some_iff.1 e2).1
theorem cell_push{w:World}{o:Obj}{b i:Nat}(hb:b<w.heap.size):(w.alloc o).cell? ⟨b,i,none⟩=w.cell? ⟨b,i,none⟩:=World.cell?_alloc_lt w o _ hb
def Ghost.put(G:Ghost)(id:Nat)(r:Reg):Ghost:={imm:=G.imm,own:=λi=>if i=id then some r else G.own i}
theorem GLe.put{G:Ghost}{id:Nat}{r:Reg}(h:G.own id=none):GLe G (G.put id r):=
 ⟨λ_ _ _ h=>h,λi r' hi=>by
  simp only[Ghost.put]
  split
  ·subst_vars;rw[h]at hi;cases hi
  ·exact hi⟩
theorem Sim.put{G:Ghost}{s:St}{w:World}(h:Sim G s w){o:Obj}{blk:Blk}{r:Reg}(hr:r.block=w.heap.size)(hh:Holds (G.put s.cnt r) r blk o):
  Sim (G.put s.cnt r) ⟨(s.cnt,blk)::s.heap,s.cnt+1⟩ (w.alloc o)/\Ext G s w (G.put s.cnt r) ⟨(s.cnt,blk)::s.heap,s.cnt+1⟩ (w.alloc o):=by
 have hle:GLe G (G.put s.cnt r):=.put (h.fresh _ (Nat.le_refl _))
 have old: ∀id b,eget s.heap id=some b->id≠s.cnt:=λid b hg e=>by
  have:=h.lt id b hg
  omega
 have gold: ∀id b,eget ((s.cnt,blk)::s.heap) id=some b->(id=s.cnt/\b=blk)\/(id≠s.cnt/\eget s.heap id=some b):=λid b hg=>by
  simp only[egetN,egetC]at hg
  split at hg
  ·cases hg;exact .inl ⟨by omega,rfl⟩
  ·exact .inr ⟨by omega,hg⟩
 have ownNe: ∀id,id≠s.cnt->(G.put s.cnt r).own id=G.own id:=λid hne=>by simp[Ghost.put,hne]
 have ownEq:(G.put s.cnt r).own s.cnt=some r:=by simp[Ghost.put]
 refine⟨⟨?_,?_,?_,?_,?_,?_⟩,⟨hle,rfl,rfl,rfl,by simp,?_,?_,?_,?_,by simp,λid hg=>by simp only[egetN,egetC];rw[if_neg (λe=>old id _ hg e.symm)];exact hg,λid hl ho=>by rw[ownNe id (by omega)];exact ho,Nat.le_refl _⟩⟩
 ·intro b i v hi
  have hb:=h.imm_lt hi
  rw[cell_push hb];exact h.imm b i v hi
 ·intro id b hg
  rcases gold id b hg with⟨rfl,rfl⟩|⟨hne,hg⟩
  ·exact .inl ⟨r,o,ownEq,by rw[hr];show(w.heap.push o)[w.heap.size]? =some o;simp,hh⟩
  ·rcases h.heap id b hg with⟨r',o',e1,e2,e3⟩|⟨e1,e2⟩
   ·have hlt:=h.own_lt hg e1
    exact .inl ⟨r',o',by rw[ownNe id hne];exact e1,by rw[Below.heap_alloc _ _ _ hlt];exact e2,e3.mono hle⟩
   ·exact .inr ⟨by rw[ownNe id hne];exact e1,e2⟩
 ·intro id id' b b' r1 r2 h1 h2 o1 o2 hne
  rcases gold id b h1 with⟨rfl,rfl⟩|⟨n1,g1⟩<;>rcases gold id' b' h2 with⟨rfl,rfl⟩|⟨n2,g2⟩
  ·exact absurd rfl hne
  ·rw[ownEq]at o1;cases o1
   rw[ownNe _ n2]at o2
   have:=h.own_lt g2 o2
   omega
  ·rw[ownEq]at o2;cases o2
   rw[ownNe _ n1]at o1
   have:=h.own_lt g1 o1
   omega
  ·rw[ownNe _ n1]at o1;rw[ownNe _ n2]at o2
   exact h.apart id id' b b' r1 r2 g1 g2 o1 o2 hne
 ·intro id b r1 i hg ho
  rcases gold id b hg with⟨rfl,rfl⟩|⟨n1,g1⟩
  ·rw[ownEq]at ho;cases ho
   cases hi:G.imm r.block i with
   |none=>exact hi
   |some v=>have:=h.imm_lt hi;omega
  ·rw[ownNe _ n1]at ho
   exact h.clear id b r1 i g1 ho
 ·intro id hid
  rw[ownNe id (by simp at hid;omega)]
  exact h.fresh id (by simp at hid;omega)
 ·intro id b hg
  show id<s.cnt+1
  rcases gold id b hg with⟨rfl,rfl⟩|⟨hne,hg⟩
  ·omega
  ·have:=h.lt id b hg;omega
 ·intro b hb _;exact Below.heap_alloc _ _ _ hb
 ·intro b i v hi;exact .inl hi
 ·intro id r' hi
  simp only[Ghost.put]at hi
  split at hi
  ·cases hi;exact .inr (.inl (by omega))
  ·exact .inl hi
 ·intro id b hg
  rcases gold id b hg with⟨rfl,rfl⟩|⟨_,g⟩
  ·exact .inr (Nat.le_refl _)
  ·exact .inl ⟨_,g⟩
theorem Sim.drop{G:Ghost}{s s':St}{w:World}(h:Sim G s w)(hh: ∀id b,eget s'.heap id=some b->eget s.heap id=some b)(hc:s.cnt<=s'.cnt):Sim G s' w:=
 ⟨h.imm,λid b hg=>h.heap id b (hh id b hg),λid id' b b' r r' h1 h2=>h.apart id id' b b' r r' (hh _ _ h1) (hh _ _ h2),λid b r o hg=>h.clear id b r o (hh _ _ hg),λid hid=>h.fresh id (by omega),λid b hg=>Nat.lt_of_lt_of_le (h.lt id b (hh id b hg)) hc⟩
theorem Ext.drop{G:Ghost}{s s':St}{w:World}(hh: ∀id b,eget s'.heap id=some b->eget s.heap id=some b)(hc:s.cnt<=s'.cnt)
  (hd: ∀id,eget s.heap id=some .dfr->eget s'.heap id=some .dfr):Ext G s w G s' w:=
 {Ext.refl G s w with ids:=λid b hg=>.inl ⟨b,hh id b hg⟩,cnt:=hc,dfr:=hd}
theorem Sim.drew{G:Ghost}{s:St}{w:World}(h:Sim G s w):Sim G s w.drew:=⟨h.imm,h.heap,h.apart,h.clear,h.fresh,h.lt⟩
theorem Ext.drew(G:Ghost)(s:St)(w:World):Ext G s w G s w.drew:={Ext.refl G s w with keep:=λ_ _ _=>rfl,size:=Nat.le_refl _,drawn:=Nat.le_succ _}
def Ghost.addImm(G:Ghost)(b:Nat)(cs:Array Value):Ghost:={imm:=λb' o=>if b'=b then cs[o]? else G.imm b' o,own:=G.own}
theorem GLe.addImm{G:Ghost}{b:Nat}{cs:Array Value}(h: ∀o v,G.imm b o=some v->cs[o]? =some v):GLe G (G.addImm b cs):=
 ⟨λb' o v hi=>by
  simp only[Ghost.addImm]
  split
  ·subst_vars;exact h o v hi
  ·exact hi,λ_ _ h=>h⟩
theorem Sim.newImm{G:Ghost}{s:St}{w:World}(h:Sim G s w)(cs:Array Value)(t:TypeId):
  Sim (G.addImm w.heap.size cs) s (w.alloc (.cells cs t))/\Ext G s w (G.addImm w.heap.size cs) s (w.alloc (.cells cs t)):=by
 have hn: ∀o v,G.imm w.heap.size o=some v->cs[o]? =some v:=λo v hi=>by have:=h.imm_lt hi;omega
 have hle:GLe G (G.addImm w.heap.size cs):=.addImm hn
 refine⟨⟨?_,?_,?_,?_,?_,h.lt⟩,⟨hle,rfl,rfl,rfl,by simp,?_,?_,?_,?_,Nat.le_refl _,λ_ h=>h,λ_ _ h=>h,Nat.le_refl _⟩⟩
 ·intro b o v hi
  simp only[Ghost.addImm]at hi
  split at hi
  ·subst_vars;rw[World.cell?_alloc_new];exact hi
  ·have hb:=h.imm_lt hi
   rw[cell_push hb];exact h.imm b o v hi
 ·intro id b hg
  rcases h.heap id b hg with⟨r',o',e1,e2,e3⟩|e
  ·have hlt:=h.own_lt hg e1
   exact .inl ⟨r',o',e1,by rw[Below.heap_alloc _ _ _ hlt];exact e2,e3.mono hle⟩
  ·exact .inr e
 ·exact h.apart
 ·intro id b r o hg ho
  have hlt:=h.own_lt hg ho
  simp only[Ghost.addImm]
  split
  ·omega
  ·exact h.clear id b r o hg ho
 ·exact h.fresh
 ·intro b hb _;exact Below.heap_alloc _ _ _ hb
 ·intro b o v hi
  simp only[Ghost.addImm]at hi
  split at hi
  ·exact .inr (.inl (by omega))
  ·exact .inl hi
 ·intro id r hi;exact .inl hi
 ·intro id b hg;exact .inl ⟨b,hg⟩
theorem Sim.freeze{G:Ghost}{s:St}{w:World}(h:Sim G s w){id esz:Nat}{elems:List AV}{r:Reg}{cs:Array Value}{e:TypeId}(hg:eget s.heap id=some (.cells esz elems))
  (ho:G.own id=some r) (hw:w.heap[r.block]? =some (.cells cs e (0,0))):
  Sim (G.addImm r.block cs) ⟨edel s.heap id,s.cnt⟩ w/\Ext G s w (G.addImm r.block cs) ⟨edel s.heap id,s.cnt⟩ w:=by
 have hle:GLe G (G.addImm r.block cs):=.addImm λo v hi=>by rw[h.clear id _ r o hg ho]at hi;cases hi
 have gd: ∀i b,eget (edel s.heap id) i=some b->i≠id/\eget s.heap i=some b:=λi b hi=>by
  rw[get_del]at hi
  split at hi
  ·cases hi
  ·exact⟨by omega,hi⟩
 refine⟨⟨?_,?_,?_,?_,?_,λi b hi=>h.lt i b (gd i b hi).2⟩,⟨hle,rfl,rfl,rfl,Nat.le_refl _,λ_ _ _=>rfl,?_,?_,?_,Nat.le_refl _,λi hi=>by rw[get_del,if_neg (λe=>by subst e;rw[hg]at hi;cases hi)];exact hi,λ_ _ h=>h,Nat.le_refl _⟩⟩
 ·intro b o v hi
  simp only[Ghost.addImm]at hi
  split at hi
  ·subst_vars;simp[World.cell?,hw,hi]
  ·exact h.imm b o v hi
 ·intro i b hi
  rcases h.heap i b (gd i b hi).2 with⟨r',o',e1,e2,e3⟩|e
  ·exact .inl ⟨r',o',e1,e2,e3.mono hle⟩
  ·exact .inr e
 ·intro i i' b b' r1 r2 h1 h2;exact h.apart i i' b b' r1 r2 (gd _ _ h1).2 (gd _ _ h2).2
 ·intro i b r1 o hi ho'
  simp only[Ghost.addImm]
  split
  ·rename_i hb
   exact absurd hb (h.apart i id b _ r1 r (gd i b hi).2 hg ho' ho (gd i b hi).1)
  ·exact h.clear i b r1 o (gd i b hi).2 ho'
 ·exact h.fresh
 ·intro b o v hi
  simp only[Ghost.addImm]at hi
  split at hi
  ·exact .inr (.inr ⟨id,_,r,hg,ho,by omega⟩)
  ·exact .inl hi
 ·intro i r' hi;exact .inl hi
 ·intro i b hi;exact .inl ⟨b,(gd i b hi).2⟩
theorem Sim.turn{G:Ghost}{s:St}{w w':World}(h:Sim G s w){id:Nat}{blk blk':Blk}{r:Reg}{o:Obj}(hg:eget s.heap id=some blk)(ho:G.own id=some r)
  (hs:w'.heap.size=w.heap.size) (hos:w'.os=w.os) (ht:w'.tape=w.tape) (hout:w'.output=w.output)
  (hk: ∀b,b≠r.block->w'.heap[b]? =w.heap[b]?) (hw:w'.heap[r.block]? =some o) (hh:Holds G r blk' o) (hnd:blk≠ .dfr) (hdr:w.drawn<=w'.drawn:=by exact Nat.le_refl _):
  Sim G ⟨eset s.heap id blk',s.cnt⟩ w'/\Ext G s w G ⟨eset s.heap id blk',s.cnt⟩ w':=by
 have gs: ∀i b,eget (eset s.heap id blk') i=some b->(i=id/\b=blk')\/(i≠id/\eget s.heap i=some b):=λi b hi=>by
  rw[get_set]at hi
  split at hi
  ·cases hi;exact .inl ⟨by omega,rfl⟩
  ·exact .inr ⟨by omega,hi⟩
 have gs': ∀i b,eget (eset s.heap id blk') i=some b-> ∃b0,eget s.heap i=some b0:=λi b hi=>by
  rcases gs i b hi with⟨rfl,_⟩|⟨_,hb⟩
  ·exact⟨_,hg⟩
  ·exact⟨_,hb⟩
 refine⟨⟨?_,?_,?_,?_,?_,λi b hi=>let⟨b0,hb0⟩:=gs' i b hi;h.lt i b0 hb0⟩,⟨.refl G,hos,ht,hout,by omega,?_,?_,?_,?_,Nat.le_refl _,λi hi=>by rw[get_set,if_neg (λe=>by subst e;rw[hg]at hi;cases hi;exact hnd rfl)];exact hi,λ_ _ h=>h,hdr⟩⟩
 ·intro b i v hi
  have hne:b≠r.block:=λe=>by subst e;rw[h.clear id _ r i hg ho]at hi;cases hi
  have:=h.imm b i v hi
  rwa[World.cell?_of_block (w:=w) (hk b hne)]
 ·intro i b hi
  rcases gs i b hi with⟨rfl,rfl⟩|⟨hne,hb⟩
  ·exact .inl ⟨r,o,ho,hw,hh⟩
  ·rcases h.heap i b hb with⟨r',o',e1,e2,e3⟩|e
   ·exact .inl ⟨r',o',e1,by rw[hk _ (h.apart i id b _ r' r hb hg e1 ho hne)];exact e2,e3⟩
   ·exact .inr e
 ·intro i i' b b' r1 r2 h1 h2 o1 o2 hne
  obtain⟨b1,g1⟩:=gs' i b h1
  obtain⟨b2,g2⟩:=gs' i' b' h2
  exact h.apart i i' b1 b2 r1 r2 g1 g2 o1 o2 hne
 ·intro i b r1 j hi ho'
  obtain⟨b1,g1⟩:=gs' i b hi
  exact h.clear i b1 r1 j g1 ho'
 ·exact h.fresh
 ·intro b hb hn
  exact hk b λe=>hn ⟨id,blk,r,hg,ho,e.symm⟩
 ·intro b o v hi;exact .inl hi
 ·intro i r' hi;exact .inl hi
 ·intro i b hi;exact .inl (gs' i b hi)
theorem flat_nil:flat []=[]:=rfl
theorem flat_cons(x:AV)(l:List AV):flat (x::l)=x.cells++flat l:=by simp[flat]
theorem flat_append(a b:List AV):flat (a++b)=flat a++flat b:=by simp[flat]
theorem flat_length{esz:Nat}{l:List AV}(h: ∀e∈l,e.cells.length=esz):(flat l).length=l.length*esz:=by
 induction l with
 |nil=>simp[flat]
 |cons x r ih=>
  rw[flat_cons,List.length_append,h x (by simp),ih λe he=>h e (by simp[he]),List.length_cons,Nat.add_mul]
  omega
theorem flat_at{esz:Nat}{l:List AV}(h: ∀e∈l,e.cells.length=esz){i:Nat}{e:AV}(he:l[i]? =some e)(j:Nat)(x:AV)(hx:e.cells[j]? =some x):
  (flat l)[i*esz+j]? =some x:=by
 induction l generalizing i with
 |nil=>simp at he
 |cons y r ih=>
  rw[flat_cons]
  cases i with
  |zero=>
   simp at he
   subst he
   have:j<y.cells.length:=(List.getElem?_eq_some_iff.1 hx).1
   rw[Nat.zero_mul,Nat.zero_add,List.getElem?_append_left this];exact hx
  |succ i=>
   have hy:=h y (by simp)
   rw[List.getElem?_append_right (by rw[hy,Nat.add_mul];omega),hy]
   have:=ih (λe he=>h e (by simp[he])) (i:=i) (by simpa using he)
   rw[show(i+1)*esz+j-esz=i*esz+j from by rw[Nat.add_mul];omega]
   exact this
theorem flat_inv{esz:Nat}{l:List AV}(h: ∀e∈l,e.cells.length=esz)(h0:0<esz){k:Nat}{x:AV}(hx:(flat l)[k]? =some x):
  ∃e,l[k / esz]? =some e/\e.cells[k%esz]? =some x:=by
 have hk:k<l.length*esz:=by rw[<-flat_length h];exact(List.getElem?_eq_some_iff.1 hx).1
 have hd:k / esz<l.length:=Nat.div_lt_of_lt_mul (by rw[Nat.mul_comm];exact hk)
 have he:l[k / esz]? =some l[k / esz]:=List.getElem?_eq_getElem hd
 have hm:k%esz<(l[k / esz]).cells.length:=by rw[h _ (List.getElem_mem hd)];exact Nat.mod_lt _ h0
 have h2:=flat_at h he (k%esz) _ (List.getElem?_eq_getElem hm)
 rw[Nat.mul_comm,Nat.div_add_mod]at h2
 rw[hx]at h2
 exact⟨_,he,by rw[List.getElem?_eq_getElem hm,h2]⟩
theorem VL.cells{G:Ghost}{x:AV}{v:Value}(h:V G x v)(hx:x≠ .any):VL G x.cells v.cells:=by
 have one: ∀{x:AV}{v:Value},V G x v->x.cells=[x]->v.cells= #[v]->VL G x.cells v.cells:=λ{x v}h hx hv=>by
  rw[hx,hv]
  refine⟨rfl,λi a b ha hb=>?_⟩
  cases i with
  |zero=>simp at ha hb;subst ha;subst hb;exact h
  |succ i=>simp at ha
 cases h with
 |any=>exact absurd rfl hx
 |agg cs vs hlen h=>exact⟨hlen,h⟩
 |bool b=>exact one (.bool b) rfl rfl
 |int k n=>exact one (.int k n) rfl rfl
 |str s=>exact one (.str s) rfl rfl
 |nilp=>exact one .nilp rfl rfl
 |nilf=>exact one .nilf rfl rfl
 |slnil full base cap hf hb=>exact one (.slnil full base cap hf hb) rfl rfl
 |sl full elems b off esz cap val hcap hfull hesz hsc himm hV=>exact one (.sl full elems b off esz cap val hcap hfull hesz hsc himm hV) rfl rfl
 |ip cells b off val himm hV=>exact one (.ip cells b off val himm hV) rfl rfl
 |mp id el off r h=>exact one (.mp id el off r h) rfl rfl
 |ms id start len cap r addr h hle hin ha=>exact one (.ms id start len cap r addr h hle hin ha) rfl rfl
 |msnil id start cap base hc=>exact one (.msnil id start cap base hc) rfl rfl
 |mc id start len cap r addr h hle hin ha=>exact one (.mc id start len cap r addr h hle hin ha) rfl rfl
 |mcnil id start base=>exact one (.mcnil id start base) rfl rfl
 |fn f caps vs hlen h=>exact one (.fn f caps vs hlen h) rfl rfl
 |yld id r h=>exact one (.yld id r h) rfl rfl
 |tup cs vs hlen h=>exact one (.tup cs vs hlen h) rfl rfl
theorem VL.get{G:Ghost}{cs:List AV}{vs:Array Value}(h:VL G cs vs){k:Nat}{x:AV}(hx:cs[k]? =some x): ∃v,vs[k]? =some v/\V G x v:=by
 have hk:k<vs.size:=by rw[<-h.1];exact(List.getElem?_eq_some_iff.1 hx).1
 exact⟨vs[k],Array.getElem?_eq_getElem hk,h.2 k x _ hx (Array.getElem?_eq_getElem hk)⟩
end Go.Am
end
section
namespace Go.Am
open Go.RowKit
def ofCell:Value->Option AV
 |.bool b=>some (.bool b)
 |.int k n=>some (.int k n)
 |.string s=>some (.str s)
 |.pointer none=>some .nilp
 |.nilFunc=>some .nilf
 |.slice none 0 0=>some (.sl true [])
 |_=>none
def ofCells:List Value->Option (List AV)
 | []=>some []
 |v::r=>match ofCell v,ofCells r with
  |some x,some l=>some (x::l)
  |_,_=>none
def ofValue:Value->Option AV
 |.agg cs=>match ofCells cs.toList with
  |some l=>some (.agg l)
  |none=>none
 |v=>ofCell v
def sizeT(P:Program)(t:TypeId):Option Nat:=(P.info? t).map (·.size)
def bytesT(P:Program)(t:TypeId):Option Nat:=(P.info? t).map (·.bytes)
def aggT(P:Program)(t:TypeId):Option Bool:=(P.underlying t).map λ|.struct _|.array _ _=>true|_=>false
def zeroT(P:Program)(t:TypeId):Option AV:=match(P.info? t).map (·.zero)with
 |some (some v)=>ofValue v
 |_=>none
def elemT(P:Program)(t:TypeId):Option TypeId:=match P.underlying t with
 |some (.slice e)=>some e
 |_=>none
def arrT(P:Program)(t:TypeId):Option (Nat×TypeId):=match P.underlying t with
 |some (.array n e)=>some (n,e)
 |_=>none
def strT(P:Program)(t:TypeId):Bool:=match P.underlying t with
 |some .string=>true
 |_=>false
def intT(P:Program)(t:TypeId):Option IntKind:=match P.underlying t with
 |some (.int k)=>some k
 |_=>none
def fieldT(P:Program)(t:TypeId)(i:Nat):Option (Nat×Nat):=match P.underlying t with
 |some (.struct fs)=>match fs[i]? with
  |some f=>match sizeT P f.type with
   |some n=>some (f.offset,n)
   |none=>none
  |none=>none
 |_=>none
def structT(P:Program)(t:TypeId):Bool:=match P.underlying t with
 |some (.struct fs)=>fs.toList.all λf=>(sizeT P f.type).isSome
 |_=>false
def ftypeT(P:Program)(t:TypeId)(i:Nat):Option TypeId:=match P.underlying t with
 |some (.struct fs)=>(fs[i]?).map (·.type)
 |_=>none
def oper(env:Env):Operand->Option AV
 |.tmp t=>eget env t
 |.const v=>ofValue v
 |.func f=>some (.fn f [])
 |.global _=>none
def opers(env:Env):List Operand->Option (List AV)
 | []=>some []
 |x::r=>match oper env x,opers env r with
  |some v,some l=>some (v::l)
  |_,_=>none
def cellsAt(s:St):AV->Option (List AV)
 |.mp id el off=>match eget s.heap id with
  |some (.cells _ elems)=>match elems[el]? with
   |some e=>some (e.cells.drop off)
   |none=>none
  |_=>none
 |.ip cells=>some cells
 |_=>none
def readT(P:Program)(t:TypeId)(cs:List AV):Option AV:=
 match aggT P t with
 |some true=>match sizeT P t with
  |some n=>if n<=cs.length then some (.agg (cs.take n))else none
  |none=>none
 |some false=>match cs with
  |x::_=>some x
  | []=>none
 |none=>none
def aLoad(P:Program)(t:TypeId)(p:AV)(s:St):Option AV:=
 match cellsAt s p with
 |some cs=>readT P t cs
 |none=>none
def splice(cs:List AV)(off:Nat)(new:List AV):List AV:=cs.take off++(new++cs.drop (off+new.length))
def reElem(e:AV)(cs:List AV):AV:=match e with
 |.agg _=>.agg cs
 |_=>match cs with
  |x::_=>x
  | []=>.any
def aStore(P:Program)(t:TypeId)(p v:AV)(s:St):Option St:=
 match p with
 |.mp id el off=>match eget s.heap id with
  |some (.cells esz elems)=>match elems[el]? with
   |some e=>if sizeT P t=some v.cells.length/\off+v.cells.length<=e.cells.length/\v.cells.all AV.scalar=true then
     some ⟨eset s.heap id (.cells esz (elems.set el (reElem e (splice e.cells off v.cells)))),s.cnt⟩
    else none
   |none=>none
  |_=>none
 |_=>none
def aNew(v:AV)(s:St):Option (AV×St):=
 if 0<v.cells.length/\v.cells.all AV.scalar=true then some (.mp s.cnt 0 0,⟨(s.cnt,.cells v.cells.length [v])::s.heap,s.cnt+1⟩)else none
def aField(P:Program)(t:TypeId)(p:AV)(i:Nat):Option AV:=
 match fieldT P t i with
 |some (off,n)=>if n=0 then none else match p with
  |.mp id el o=>some (.mp id el (o+off))
  |.ip cells=>some (.ip (cells.drop off))
  |_=>none
 |none=>none
def aPart(P:Program)(t:TypeId)(x:AV)(off:Nat):Option AV:=match x with
 |.agg cs=>readT P t (cs.drop off)
 |_=>none
def aFieldV(P:Program)(t:TypeId)(x:AV)(i:Nat):Option AV:=
 match fieldT P t i,ftypeT P t i with
 |some (off,_),some ft=>aPart P ft x off
 |_,_=>none
def aIndexAddr(P:Program)(t:TypeId)(x:AV)(i:AV)(s:St):Option AV:=
 match i with
 |.int _ n=>match elemT P t with
  |some e=>match x with
   |.sl _ elems=>if 0<=n then match elems[n.toNat]? with
     |some y=>if sizeT P e=some y.cells.length then some (.ip y.cells)else none
     |none=>none
    else none
   |.ms id start len=>match eget s.heap id with
    |some (.cells esz _)=>if 0<=n/\n<len/\sizeT P e=some esz then some (.mp id (start+n.toNat) 0)else none
    |_=>none
   |_=>none
  |none=>match arrT P t with
   |some (m,e)=>match sizeT P e with
    |some sz=>if 0<=n/\n<m then match x with
      |.mp id el off=>some (.mp id el (off+n.toNat*sz))
      |.ip cells=>some (.ip (cells.drop (n.toNat*sz)))
      |_=>none
     else none
    |none=>none
   |none=>none
 |_=>none
def aIndex(P:Program)(t:TypeId)(x:AV)(i:AV):Option AV:=
 match i with
 |.int _ n=>match x with
  |.str b=>if strT P t=true/\0<=n then match b[n.toNat]? with
    |some c=>some (.int .u8 c.toNat)
    |none=>none
   else none
  |.agg cs=>match arrT P t with
   |some (m,e)=>match sizeT P e with
    |some sz=>if 0<=n/\n<m then readT P e (cs.drop (n.toNat*sz))else none
    |none=>none
   |none=>none
  |_=>none
 |_=>none
def aBound(env:Env)(x:Option Operand)(d:Nat):Option Nat:=match x with
 |none=>some d
 |some o=>match oper env o with
  |some (.int _ n)=>if 0<=n then some n.toNat else none
  |_=>none
def aSlice(P:Program)(t:TypeId)(x:AV)(env:Env)(lo hi mx:Option Operand)(s:St):Option AV:=
 match x with
 |.str b=>if strT P t=true/\mx.isNone=true then match aBound env lo 0,aBound env hi b.size with
   |some l,some h=>if l<=h/\h<=b.size then some (.str (b.extract l h))else none
   |_,_=>none
  else none
 |.sl full elems=>match elemT P t with
  |some e=>match aBound env lo 0,aBound env hi elems.length,mx with
   |some l,some h,none=>if l<=h/\h<=elems.length/\(∀y∈elems.head?,sizeT P e=some y.cells.length)/\(sizeT P e).isSome=true then
     some (.sl (full&&h==elems.length) ((elems.take h).drop l))else none
   |some l,some h,some m=>match aBound env (some m) 0 with
    |some m=>if l<=h/\h<=m/\m<=elems.length/\hi.isSome=true/\(∀y∈elems.head?,sizeT P e=some y.cells.length)/\(sizeT P e).isSome=true then
      some (.sl (m==h) ((elems.take h).drop l))else none
    |none=>none
   |_,_,_=>none
  |none=>none
 |.ms id start len=>match elemT P t with
  |some e=>match eget s.heap id with
   |some (.cells esz _)=>match aBound env lo 0,aBound env hi len,mx with
    |some l,some h,none=>if l<=h/\h<=len/\sizeT P e=some esz then some (.ms id (start+l) (h-l))else none
    |some l,some h,some m=>match aBound env (some m) 0 with
     |some m=>if l<=h/\h<=m/\m<=len/\hi.isSome=true/\sizeT P e=some esz then some (.ms id (start+l) (h-l))else none
     |none=>none
    |_,_,_=>none
   |_=>none
  |none=>none
 |.mc id start len cap=>match elemT P t with
  |some e=>match eget s.heap id with
   |some (.cells esz _)=>match aBound env lo 0,aBound env hi len,mx with
    |some l,some h,none=>if l<=h/\h<=cap/\sizeT P e=some esz then some (.mc id (start+l) (h-l) (cap-l))else none
    |_,_,_=>none
   |_=>none
  |none=>none
 |_=>none
def elemsOf(x:AV)(s:St):Option (List AV):=match x with
 |.sl _ elems=>some elems
 |.ms id start len=>match eget s.heap id with
  |some (.cells _ elems)=>if start+len<=elems.length then some ((elems.drop start).take len)else none
  |_=>none
 |_=>none
def fits(P:Program)(e:TypeId)(l:List AV):Prop:= ∀y∈l.head?,sizeT P e=some y.cells.length
instance (P:Program) (e:TypeId) (l:List AV):Decidable (fits P e l):=by unfold fits;exact inferInstance
def fitsV(P:Program)(e:TypeId)(x:AV)(s:St):Prop:=match x with
 |.sl _ elems=>fits P e elems
 |.ms id _ _=>match eget s.heap id with
  |some (.cells esz _)=>sizeT P e=some esz
  |_=>False
 |_=>False
instance (P:Program) (e:TypeId) (x:AV) (s:St):Decidable (fitsV P e x s):=by
 unfold fitsV;split
 ·exact inferInstance
 ·split<;>exact inferInstance
 ·exact inferInstance
def maxElems:Nat:=4294967296
def zeroOk(P:Program)(e:TypeId)(sz:Nat):Bool:=match zeroT P e with
 |some z=>z.cells.length==sz&&z.cells.all AV.scalar
 |none=>false
def aAppend(P:Program)(t:TypeId)(x:AV)(new:List AV)(s:St):Option (AV×St):=
 match elemT P t with
 |some e=>match sizeT P e,bytesT P e with
  |some sz,some by_=>if 0<sz/\by_<=4096/\zeroOk P e sz=true then
    match x with
    |.sl full elems=>if new=[]then some (.sl full elems,s)else
     if full=true/\elems.length+new.length<=maxElems/\fits P e elems then
      some (.ms s.cnt 0 (elems.length+new.length),⟨(s.cnt,.cells sz (elems++new))::s.heap,s.cnt+1⟩)else none
    |.ms id start len=>if new=[]then some (.ms id start len,s)else
     match eget s.heap id with
     |some (.cells esz elems)=>if esz=sz/\start+len<=elems.length/\len+new.length<=maxElems then
       some (.ms s.cnt 0 (len+new.length),⟨(s.cnt,.cells sz ((elems.drop start).take len++new))::edel s.heap id,s.cnt+1⟩)else none
     |_=>none
    |.mc id start len cap=>match eget s.heap id with
     |some (.cells esz elems)=>if new≠[]/\esz=sz/\start+len<=elems.length/\cap<len+new.length/\len+new.length<=maxElems then
       some (.ms s.cnt 0 (len+new.length),⟨(s.cnt,.cells sz ((elems.drop start).take len++new))::s.heap,s.cnt+1⟩)else none
     |_=>none
    |_=>none
   else none
  |_,_=>none
 |none=>none
def aCopy(P:Program)(t:TypeId)(x:AV)(new:List AV)(s:St):Option (AV×St):=
 match elemT P t with
 |some e=>match x with
  |.ms id start len=>match eget s.heap id with
   |some (.cells esz elems)=>if sizeT P e=some esz/\start+len<=elems.length then
    let n:=min new.length len
    some (.int .i64 n,⟨eset s.heap id (.cells esz (elems.take start++(new.take n++elems.drop (start+n)))),s.cnt⟩)else none
   |_=>none
  |.mc id start len _=>match eget s.heap id with
   |some (.cells esz elems)=>if sizeT P e=some esz/\start<=elems.length then
    let n:=min new.length len
    some (.int .i64 n,⟨eset s.heap id (.cells esz (elems.take start++(new.take n++elems.drop (start+n)))),s.cnt⟩)else none
   |_=>none
  |.sl _ elems=>if min new.length elems.length=0/\(sizeT P e).isSome=true then some (.int .i64 0,s)else none
  |_=>none
 |none=>none
def lenS:AV->Option Nat
 |.sl _ l=>some l.length
 |.ms _ _ n=>some n
 |.mc _ _ n _=>some n
 |_=>none
def aCopyM(P:Program)(t:TypeId)(x:AV)(id start len:Nat)(s:St):Option (AV×St):=
 match elemT P t,eget s.heap id,lenS x with
 |some e,some (.cells esz elems),some n=>if sizeT P e=some esz/\start+min len n<=elems.length then aCopy P t x ((elems.drop start).take (min len n)) s else none
 |_,_,_=>none
def aCap(P:Program)(t:TypeId)(x:AV):Option AV:=match x with
 |.mc _ _ _ cap=>if(elemT P t).isSome=true then some (.int .i64 cap)else none
 |.sl true elems=>if(elemT P t).isSome=true then some (.int .i64 elems.length)else none
 |_=>none
def aClear(P:Program)(t:TypeId)(x:AV)(s:St):Option (AV×St):=match elemT P t,x with
 |some e,.ms id start len=>match eget s.heap id,zeroT P e with
  |some (.cells esz elems),some z=>if sizeT P e=some esz/\z.cells.length=esz/\z.cells.all AV.scalar=true/\start+len<=elems.length then
   some (.tup [],⟨eset s.heap id (.cells esz (elems.take start++(List.replicate len z++elems.drop (start+len)))),s.cnt⟩)else none
  |_,_=>none
 |_,_=>none
def aLen(P:Program)(t:TypeId)(x:AV):Option AV:=match x with
 |.mc _ _ len _=>if(elemT P t).isSome=true then some (.int .i64 len)else none
 |.sl _ elems=>if(elemT P t).isSome=true then some (.int .i64 elems.length)else none
 |.ms _ _ len=>if(elemT P t).isSome=true then some (.int .i64 len)else none
 |.str b=>if strT P t=true then some (.int .i64 b.size)else none
 |_=>match arrT P t with
  |some (n,_)=>some (.int .i64 n)
  |none=>none
def aMake(P:Program)(t:TypeId)(l c:AV)(s:St):Option (AV×St):=
 match l,c,elemT P t with
 |.int _ n,.int _ m,some e=>match sizeT P e,bytesT P e,zeroT P e with
  |some sz,some by_,some z=>if 0<=n/\n<=m/\m<=maxElems/\0<sz/\z.cells.length=sz/\z.cells.all AV.scalar=true/\by_<=4096 then
   some (.ms s.cnt 0 n.toNat,⟨(s.cnt,.cells sz (List.replicate n.toNat z))::s.heap,s.cnt+1⟩)else none
  |_,_,_=>none
 |_,_,_=>none
def aInt(op:BinOp)(k:IntKind)(x y:Int):Option AV:=match op with
 |.add=>some (.int k (k.wrap (x+y)))
 |.sub=>some (.int k (k.wrap (x-y)))
 |.mul=>some (.int k (k.wrap (x*y)))
 |.quo=>if y=0 then none else some (.int k (k.wrap (x.tdiv y)))
 |.rem=>if y=0 then none else some (.int k (x.tmod y))
 |.eql=>some (.bool (decide (x=y)))
 |.neq=>some (.bool (decide (x≠y)))
 |.lss=>some (.bool (decide (x<y)))
 |.leq=>some (.bool (decide (x<=y)))
 |.gtr=>some (.bool (decide (y<x)))
 |.geq=>some (.bool (decide (y<=x)))
 |.shl=>if y<0 then none else some (.int k (k.wrap (x*2^(min y.toNat k.bits))))
 |.shr=>if y<0 then none else some (.int k (x.fdiv (2^(min y.toNat k.bits))))
 |.and|.or|.xor|.andNot=>none
def aEqFields(P:Program)(eq:TypeId->AV->AV->Option Bool)(xs ys:List AV):List Field->Option Bool
 | []=>some true
 | f :: fs => if f.name = "_" then none else
  match readT P f.type (xs.drop f.offset),readT P f.type (ys.drop f.offset)with
  |some a,some b=>match eq f.type a b,aEqFields P eq xs ys fs with
   |some r,some r'=>some (r&&r')
   |_,_=>none
  |_,_=>none
def aEq(P:Program):Nat->TypeId->AV->AV->Option Bool
 |0,_,_,_=>none
 |d+1,t,x,y=>
  match P.underlying t,x,y with
  |some .bool,.bool a,.bool b=>some (a==b)
  |some (.int _),.int k a,.int k' b=>if k=k' then some (decide (a=b))else none
  |some .string,.str a,.str b=>some (a.toList==b.toList)
  |some (.pointer _),.nilp,.nilp=>some true
  |some (.pointer _),.nilp,.mp _ _ _=>some false
  |some (.pointer _),.mp _ _ _,.nilp=>some false
  |some (.func _ _ _),.nilf,.nilf=>some true
  |some (.func _ _ _),.nilf,.fn _ _=>some false
  |some (.func _ _ _),.fn _ _,.nilf=>some false
  |some (.struct fs),.agg xs,.agg ys=>if P.stoodInHeld t=true then none else aEqFields P (aEq P d) xs ys fs.toList
  |_,_,_=>none
def aBin(P:Program)(op:BinOp)(t:TypeId)(x y:AV):Option AV:=
 match x,y with
 |.int k a,.int k' b=>match op with
  |.shl|.shr=>aInt op k a b
  |_=>if k=k' then aInt op k a b else none
 |.str a,.str b=>match op with
  |.add=>if a.size+b.size<=maxLen then some (.str (a++b))else none
  |.eql=>some (.bool (a.toList==b.toList))
  |.neq=>some (.bool !(a.toList==b.toList))
  |.lss=>some (.bool (Op.bytesLess a.toList b.toList))
  |.geq=>some (.bool !(Op.bytesLess a.toList b.toList))
  |.leq=>some (.bool (Op.bytesLess a.toList b.toList||a.toList==b.toList))
  |.gtr=>some (.bool !(Op.bytesLess a.toList b.toList||a.toList==b.toList))
  |_=>none
 |x,y=>if P.eqGuardType P.depth t=true then none else match op with
  |.eql=>match aEq P 8 t x y with
   |some b=>some (.bool b)
   |none=>none
  |.neq=>match aEq P 8 t x y with
   |some b=>some (.bool !b)
   |none=>none
  |_=>none
def aUn(op:UnOp)(x:AV):Option AV:=match op,x with
 |.not,.bool b=>some (.bool !b)
 |.neg,.int k n=>some (.int k (k.wrap (0-n)))
 |_,_=>none
def aConvert(P:Program)(src dst:TypeId)(x:AV):Option AV:=match x with
 |.int _ n=>if(P.underlying src).isSome=true then match intT P dst with
   |some k=>some (.int k (k.wrap n))
   |none=>none
  else none
 |.str b=>if(P.underlying src).isSome=true/\strT P dst=true then some (.str b)else none
 |_=>none
def aFill(place:Nat->Option (Nat×Nat))(cells:List AV):List (Nat×AV)->Option (List AV)
 | []=>some cells
 |(i,v)::r=>match place i with
  |some (off,n)=>if v.cells.length=n/\v.cells.all AV.scalar=true/\off+n<=cells.length then aFill place (splice cells off v.cells) r else none
  |none=>none
def aParts(env:Env):List (Nat×Operand)->Option (List (Nat×AV))
 | []=>some []
 |(i,x)::r=>match oper env x,aParts env r with
  |some v,some l=>some ((i,v)::l)
  |_,_=>none
def aBuild(P:Program)(t:TypeId)(parts:List (Nat×AV)):Option AV:=
 match zeroT P t with
 |some (.agg cs)=>if structT P t=true then match aFill (fieldT P t) cs parts with
   |some l=>some (.agg l)
   |none=>none
  else match arrT P t with
  |some (_,e)=>match sizeT P e with
   |some sz=>match aFill (λi=>some (i*sz,sz)) cs parts with
    |some l=>some (.agg l)
    |none=>none
   |none=>none
  |none=>none
 |_=>none
def numbered(l:List (Nat×AV))(i:Nat):Bool:=match l with
 | []=>true
 |(j,_)::r=>j==i&&numbered r (i+1)
def aBuildSlice(P:Program)(t:TypeId)(len:Nat)(parts:List (Nat×AV)):Option AV:=
 match elemT P t with
 |some e=>match sizeT P e,zeroT P e with
  |some sz,some z=>if parts.length=len/\numbered parts 0=true/\(∀p∈parts,p.2.cells.length=sz/\p.2.cells.all AV.scalar=true)/\len*sz<=16777216/\0<sz/\z.cells.length=sz then
   some (.sl true (parts.map (·.2)))else none
  |_,_=>none
 |none=>none
def aMin:AV->AV->Option AV
 |.int k x,.int k' y=>if k=k' then some (.int k (if y<x then y else x))else none
 |_,_=>none
def aMax:AV->AV->Option AV
 |.int k x,.int k' y=>if k=k' then some (.int k (if x<y then y else x))else none
 |_,_=>none
def aFold(f:AV->AV->Option AV):AV->List AV->Option AV
 |x,[]=>some x
 |x,y::r=>match f x y with
  |some z=>aFold f z r
  |none=>none
def ekeep(v:Option AV)(s:St):Option (AV×St):=match v with
 |some v=>some (v,s)
 |none=>none
def aop(P:Program)(op:Op)(env:Env)(s:St):Option (AV×St):=
 match op with
 |.move x|.assign x=>ekeep (oper env x) s
 |.pick c a b=>match oper env c with
  |some (.bool t)=>if t then ekeep (oper env a) s else ekeep (oper env b) s
  |_=>none
 |.alloc t=>match zeroT P t with
  |some z=>aNew z s
  |none=>none
 |.box _ x=>match oper env x with
  |some v=>aNew v s
  |none=>none
 |.build t parts=>match aParts env parts.toList with
  |some l=>ekeep (aBuild P t l) s
  |none=>none
 |.buildSlice t len parts=>match aParts env parts.toList with
  |some l=>ekeep (aBuildSlice P t len l) s
  |none=>none
 |.load t p=>match oper env p with
  |some p=>ekeep (aLoad P t p s) s
  |none=>none
 |.store t p x=>match oper env p,oper env x with
  |some p,some x=>match aStore P t p x s with
   |some s'=>some (.any,s')
   |none=>none
  |_,_=>none
 |.nilCheck x=>match oper env x with
  |some (.mp id el off)=>some (.mp id el off,s)
  |some (.ip cells)=>some (.ip cells,s)
  |some (.fn f caps)=>some (.fn f caps,s)
  |_=>none
 |.binOp op t x y _=>match oper env x,oper env y with
  |some x,some y=>ekeep (aBin P op t x y) s
  |_,_=>none
 |.unOp op _ x=>match oper env x with
  |some x=>ekeep (aUn op x) s
  |none=>none
 |.convert src dst x=>match oper env x with
  |some x=>ekeep (aConvert P src dst x) s
  |none=>none
 |.makeFunc (.func f) first caps=>if first.size=0 then match opers env caps.toList with
   |some l=>some (.fn f l,s)
   |none=>none
  else none
 |.slice t x lo hi mx=>match oper env x with
  |some x=>ekeep (aSlice P t x env lo hi mx s) s
  |none=>none
 |.fieldAddr t x i=>match oper env x with
  |some x=>ekeep (aField P t x i) s
  |none=>none
 |.field t x i=>match oper env x with
  |some x=>ekeep (aFieldV P t x i) s
  |none=>none
 |.indexAddr t x i=>match oper env x,oper env i with
  |some x,some i=>ekeep (aIndexAddr P t x i s) s
  |_,_=>none
 |.index t x i=>match oper env x,oper env i with
  |some x,some i=>ekeep (aIndex P t x i) s
  |_,_=>none
 |.extract x i=>match oper env x with
  |some (.tup vs)=>ekeep vs[i]? s
  |_=>none
 |.makeSlice t l c=>match oper env l,oper env c with
  |some l,some c=>aMake P t l c s
  |_,_=>none
 |.call c=>match c.callee with
  |.builtin .len=>match opers env c.args.toList,c.argTypes[0]? with
   |some [x],some t=>ekeep (aLen P t x) s
   |_,_=>none
  |.builtin .append=>match opers env c.args.toList,c.argTypes[0]?,c.argTypes[1]? with
   |some [x,y],some t,some u=>match y with
    |.int _ n=>match elemT P t with
     |some e=>match zeroT P e with
      |some z=>if 0<=n/\n<=maxElems/\(intT P u).isSome=true/\sizeT P e=some z.cells.length/\z.cells.all AV.scalar=true then aAppend P t x (List.replicate n.toNat z) s else none
      |none=>none
     |none=>none
    |y=>match elemT P t,elemsOf y s with
     |some e,some new=>if fitsV P e y s/\(elemT P u).isSome=true then aAppend P t x new s else none
     |_,_=>none
   |_,_,_=>none
  |.builtin .copy=>match opers env c.args.toList,c.argTypes[0]? with
   |some [x,y],some t=>match y with
    |.mc id start len _=>aCopyM P t x id start len s
    |y=>match elemT P t,elemsOf y s with
     |some e,some new=>if fitsV P e y s then aCopy P t x new s else none
     |_,_=>none
   |_,_=>none
  |.builtin .cap=>match opers env c.args.toList,c.argTypes[0]? with
   |some [x],some t=>ekeep (aCap P t x) s
   |_,_=>none
  |.builtin .clear=>match opers env c.args.toList,c.argTypes[0]? with
   |some [x],some t=>aClear P t x s
   |_,_=>none
  |.builtin .min=>match opers env c.args.toList with
   |some (x::r)=>ekeep (aFold aMin x r) s
   |_=>none
  |.builtin .max=>match opers env c.args.toList with
   |some (x::r)=>ekeep (aFold aMax x r) s
   |_=>none
  |_=>none
 |_=>none
end Go.Am
end
section
namespace Go.Am
open Go.RowKit
def fen(o:Option Nat):Fence:={Fence.wide with round:=o}
def conc(G:Ghost)(ρ:Option Nat):Option Nat:=match ρ with
 |none=>none
 |some id=>(G.own id).map (·.block)
theorem callsIn_fen{o:Option Nat}{n:Nat}{P:Program}{f:FuncId}{args:Array Value}{w:World}{R:Ending->World->Prop}(h:Calls P f args w R):CallsIn (fen o) n P f args w R:=
 have h':CallsIn Fence.wide n P f args w R:=callsIn_wide.2 h
 h'
def Gave(G:Ghost)(s:St)(w:World)(Q:AV->St->Prop)(e:Ending)(w':World):Prop:=
 ∃v G' x s',e=.returned v/\V G' x v/\Sim G' s' w'/\Ext G s w G' s' w'/\Q x s'
theorem Gave.mono{G:Ghost}{s:St}{w:World}{Q Q':AV->St->Prop}{e:Ending}{w':World}(h:Gave G s w Q e w')(hq: ∀x s',Q x s'->Q' x s'):Gave G s w Q' e w':=
 let⟨v,G',x,s',a,b,c,d,q⟩:=h;⟨v,G',x,s',a,b,c,d,hq _ _ q⟩
def ACalls(P:Program)(f:FuncId)(args:List AV)(s:St)(Q:AV->St->Prop):Prop:=
 ∀G w vs,Sim G s w->VL G args vs->Calls P f vs w (Gave G s w Q)
theorem ACalls.mono{P:Program}{f:FuncId}{args:List AV}{s:St}{Q Q':AV->St->Prop}(h:ACalls P f args s Q)(hq: ∀x s',Q x s'->Q' x s'):ACalls P f args s Q':=
 λG w vs hs hv=>(h G w vs hs hv).mono λ_ _ hg=>hg.mono hq
def AYield(P:Program)(id:Nat)(args:List AV)(s:St)(Q:AV->St->Prop):Prop:=
 ∀o G w r vs,Sim G s w->G.own id=some r->VL G args vs-> ∃fn tmps assign body,(Instr.yield r.block vs).run P w=.ok (.round r.block fn tmps assign body) w/\
  RoundIn (fen o) 0 P r.block fn tmps assign body w (Gave G s w Q)
theorem AYield.mono{P:Program}{f:FuncId}{args:List AV}{s:St}{Q Q':AV->St->Prop}(h:AYield P f args s Q)(hq: ∀x s',Q x s'->Q' x s'):AYield P f args s Q':=
 λo G w r vs hs hr hv=>let⟨fn,tmps,assign,body,h1,h2⟩:=h o G w r vs hs hr hv;⟨fn,tmps,assign,body,h1,h2.mono λ_ _ hg=>hg.mono hq⟩
def Defs(G:Ghost)(s:St):List Deferred->Prop
 | []=>True
 |d::ds=>(∃id r,eget s.heap id=some .dfr/\G.own id=some r/\d.target=.collected r.block/\ ∀d'∈ds,∀b,d'.target=.collected b->b≠r.block)/\Defs G s ds
theorem Defs.ext{G G':Ghost}{s s':St}{w w':World}(h:Ext G s w G' s' w'): ∀{ds:List Deferred},Defs G s ds->Defs G' s' ds
 | [],_=>trivial
 |_::_,⟨⟨id,r,a,b,c,d⟩,hr⟩=>⟨⟨id,r,h.dfr id a,h.le.own _ _ b,c,d⟩,Defs.ext h hr⟩
def Known(G:Ghost)(ρ:Option Nat):Prop:= ∀id,ρ=some id-> ∃r,G.own id=some r
theorem conc_le{G G':Ghost}{ρ:Option Nat}(h:GLe G G')(hk:Known G ρ):conc G' ρ=conc G ρ:=by
 cases ρ with
 |none=>rfl
 |some id=>
  obtain⟨r,hr⟩:=hk id rfl
  simp[conc,hr,h.own _ _ hr]
theorem Known.le{G G':Ghost}{ρ:Option Nat}(h:GLe G G')(hk:Known G ρ):Known G' ρ:=λid e=>let⟨r,hr⟩:=hk id e;⟨r,h.own _ _ hr⟩
structure Now (G:Ghost) (N:Nat) (ρ:Option Nat) (env:Env) (s:St) (a:Act) (w:World):Prop where
 sim:Sim G s w
 env:VEnv G env a.tmps
 size:a.tmps.size=N
 defs:Defs G s a.defers
 known:Known G ρ
def After(G:Ghost)(N:Nat)(ρ:Option Nat)(s:St)(w:World)(Q:Exit->Env->St->Prop)(e:Exit)(a':Act)(w':World):Prop:=
 ∃G' env' s',Now G' N ρ env' s' a' w'/\Ext G s w G' s' w'/\Q e env' s'
def AWp(P:Program)(N:Nat)(ρ:Option Nat)(c:Code)(Q:Exit->Env->St->Prop)(env:Env)(s:St):Prop:=
 ∀G w a,Now G N ρ env s a w->c.wpIn (fen (conc G ρ)) 0 P (After G N ρ s w Q) a w
def Then(K:Env->St->Prop)(Q:Exit->Env->St->Prop):Exit->Env->St->Prop
 |.normal,env,s=>K env s
 |e,env,s=>Q e env s
def InBlock(id:Nat)(Q:Exit->Env->St->Prop):Exit->Env->St->Prop
 |.exit id',env,s=>if id'=id then Q .normal env s else Q (.exit id') env s
 |e,env,s=>Q e env s
def eput(d:Option Nat)(v:AV)(env:Env):Env:=match d with
 |some d=>eset env d v
 |none=>env
def enters(P:Program)(f:FuncId):Bool:=match P.funcs[f]? with
 | some fn => fn.name != "runtime.NumGoroutine" && fn.body.isSome
 |none=>false
def callOf:Op->Option (Operand×List Operand)
 |.call {callee:=.value f,args,..}=>some (f,args.toList)
 |_=>none
def owp(P:Program)(o:Oper)(K:AV->St->Prop)(env:Env)(s:St):Prop:=
 match callOf o.op with
 |some (f,args)=>match oper env f,opers env args with
  |some (.fn g caps),some l=>enters P g=true/\ACalls P g (l++caps) s K
  |some (.yld id),some l=>AYield P id l s K
  |_,_=>False
 |none=>match aop P o.op env s with
  |some (v,s')=>K v s'
  |none=>False
def gwp(ops:Array Oper)(o:Oper)(env:Env)(A B:Prop):Prop:=
 match o.guard with
 |none=>A
 |some (j,want)=>match(ops[j]?).bind (·.dst)with
  |some d=>match eget env d with
   |some (.bool b)=>(b=want->A)/\(b=!want->B)
   |some (.tup [])=>B
   |_=>False
  |none=>False
def okDst(N:Nat):Option Nat->Bool
 |some d=>decide (d<N)
 |none=>true
def rwp(P:Program)(N:Nat)(ops:Array Oper)(K:Env->St->Prop):List Oper->Env->St->Prop
 | [],env,s=>K env s
 |o::r,env,s=>okDst N o.dst=true/\gwp ops o env (owp P o (λv s'=>rwp P N ops K r (eput o.dst v env) s') env s) (rwp P N ops K r (eput o.dst (.tup []) env) s)
section
variable {P:Program} {N:Nat} {ρ:Option Nat} {Q Q':Exit->Env->St->Prop} {env:Env} {s:St}
theorem After.mono{G:Ghost}{w:World}{e:Exit}{a':Act}{w':World}(h:After G N ρ s w Q e a' w')(hq: ∀e env s,Q e env s->Q' e env s):After G N ρ s w Q' e a' w':=
 let⟨G',env',s',a,b,c⟩:=h;⟨G',env',s',a,b,hq _ _ _ c⟩
theorem AWp.mono{c:Code}(h:AWp P N ρ c Q env s)(hq: ∀e env s,Q e env s->Q' e env s):AWp P N ρ c Q' env s:=
 λG w a hn=>wpIn_mono (h G w a hn) λ_ _ _ ha=>ha.mono hq
theorem Now.after{G:Ghost}{e:Exit}{a:Act}{w:World}(h:Now G N ρ env s a w)(hq:Q e env s):After G N ρ s w Q e a w:=⟨G,env,s,h,.refl _ _ _,hq⟩
theorem AWp.later{c:Code}{G G':Ghost}{s0:St}{w0:World}{w:World}{a:Act}(h:AWp P N ρ c Q env s)(h0:Sim G s0 w0)(hk:Known G ρ)(hx:Ext G s0 w0 G' s w)(hn:Now G' N ρ env s a w):
  c.wpIn (fen (conc G ρ)) 0 P (After G N ρ s0 w0 Q) a w:=by
 have:=h G' w a hn
 rw[conc_le hx.le hk]at this
 exact wpIn_mono this λe a' w' ⟨G2,env2,s2,n2,x2,q2⟩=>⟨G2,env2,s2,n2,.trans h0 hx x2,q2⟩
theorem awp_skip(h:Q .normal env s):AWp P N ρ .skip Q env s:=λ_ _ _ hn=>wpIn_skip (hn.after h)
theorem awp_label{l:Nat}(h:Q .normal env s):AWp P N ρ (.label l) Q env s:=λ_ _ _ hn=>wpIn_label (hn.after h)
theorem awp_exit{id:Nat}(h:Q (.exit id) env s):AWp P N ρ (.exit id) Q env s:=λ_ _ _ hn=>wpIn_exit (hn.after h)
theorem awp_ret(h:Q .ret env s):AWp P N ρ .ret Q env s:=λ_ _ _ hn=>wpIn_ret (hn.after h)
theorem awp_seq{x y:Code}(h:AWp P N ρ x (Then (AWp P N ρ y Q) Q) env s):AWp P N ρ (.seq x y) Q env s:=λG w a hn=>by
 refine wpIn_seq (wpIn_mono (h G w a hn) ?_)
 rintro e a' w' ⟨G',env',s',n',x',q'⟩
 cases e with
 |normal=>exact AWp.later q' hn.sim hn.known x' n'
 |exit id=>exact⟨G',env',s',n',x',q'⟩
 |goto l=>exact⟨G',env',s',n',x',q'⟩
 |ret=>exact⟨G',env',s',n',x',q'⟩
 |panic ch=>exact⟨G',env',s',n',x',q'⟩
 |outgrown=>exact⟨G',env',s',n',x',q'⟩
theorem awp_block{id:Nat}{c:Code}(h:AWp P N ρ c (InBlock id Q) env s):AWp P N ρ (.block id c) Q env s:=λG w a hn=>by
 refine wpIn_block (wpIn_mono (h G w a hn) ?_)
 rintro e a' w' ⟨G',env',s',n',x',q'⟩
 cases e with
 |exit id'=>
  simp only[InBlock]at q'
  simp only[Exit.inBlock]
  split
  ·rename_i he;rw[if_pos he]at q';exact⟨G',env',s',n',x',q'⟩
  ·rename_i he;rw[if_neg he]at q';exact⟨G',env',s',n',x',q'⟩
 |normal=>exact⟨G',env',s',n',x',q'⟩
 |goto l=>exact⟨G',env',s',n',x',q'⟩
 |ret=>exact⟨G',env',s',n',x',q'⟩
 |panic ch=>exact⟨G',env',s',n',x',q'⟩
 |outgrown=>exact⟨G',env',s',n',x',q'⟩
theorem wpIn_loopK{F:Fence}{n:Nat}{R:Exit->Act->World->Prop}{c:Code}(J:Nat->Act->World->Prop)
  (round: ∀k a w,J k a w->c.wpIn F n P (Exit.then (λa' w'=> ∃k',k'<k/\J k' a' w') R) a w) {k:Nat} {a:Act} {w:World} (h0:J k a w):(Code.loop c).wpIn F n P R a w:=by
 intro b kk cs hro hb hr
 have key: ∀j a w,J j a w-> ∃e a' w',R e a' w'/\ArrivesIn (Machine.fenced P F) P (lone (b.atR a (.code c::.inLoop c::kk)) cs w) b kk cs e a' w':=by
  intro j
  induction j using Nat.strongRecOn with
  |_ j ih=>
   intro a w hI
   obtain⟨e,a₁,w₁,hq,harr⟩:=round j a w hI b (.inLoop c::kk) cs hro hb hr
   cases e with
   |normal=>
    obtain⟨k',hlt,hI₁⟩:=hq
    obtain⟨e₂,a₂,w₂,hq₂,harr₂⟩:=ih k' hlt a₁ w₁ hI₁
    exact⟨e₂,a₂,w₂,hq₂,.of_steps (StepsIn.trans harr (.one (fenced_calm hb hr rfl) stepR_inLoop)) harr₂⟩
   |exit id=>exact⟨_,a₁,w₁,hq,.pass (x:=.inLoop c) rfl (λ_ _=>.inl (by simp)) harr⟩
   |goto l=>exact⟨_,a₁,w₁,hq,.pass (x:=.inLoop c) rfl (λ_ _=>.inl (by simp)) harr⟩
   |ret=>exact⟨_,a₁,w₁,hq,.pass (x:=.inLoop c) rfl (λ_ _=>.inl (by simp)) harr⟩
   |panic ch=>exact⟨_,a₁,w₁,hq,.pass (x:=.inLoop c) rfl (λ_ _=>.inl (by simp)) harr⟩
   |outgrown=>exact⟨_,a₁,w₁,hq,.pass (x:=.inLoop c) rfl (λ_ _=>.inl (by simp)) harr⟩
 obtain⟨e,a',w',hq,harr⟩:=key k a w h0
 exact⟨e,a',w',hq,.of_steps (.one (fenced_calm hb hr rfl) stepR_loop) harr⟩
theorem awp_loop{c:Code}(I:Nat->Env->St->Prop){k:Nat}(h0:I k env s)
  (round: ∀k env s,I k env s->AWp P N ρ c (Then (λenv' s'=> ∃k',k'<k/\I k' env' s') Q) env s):AWp P N ρ (.loop c) Q env s:=λG w a hn=>by
 refine wpIn_loopK (λk a' w'=> ∃G' env' s',Now G' N ρ env' s' a' w'/\Ext G s w G' s' w'/\I k env' s') ?_ ⟨G,env,s,hn,.refl _ _ _,h0⟩
 rintro k a' w' ⟨G',env',s',n',x',i'⟩
 refine wpIn_mono (AWp.later (round k env' s' i') hn.sim hn.known x' n') ?_
 rintro e a2 w2 ⟨G2,env2,s2,n2,x2,q2⟩
 cases e with
 |normal=>obtain⟨k',hk,hi⟩:=q2;exact⟨k',hk,G2,env2,s2,n2,x2,hi⟩
 |exit id=>exact⟨G2,env2,s2,n2,x2,q2⟩
 |goto l=>exact⟨G2,env2,s2,n2,x2,q2⟩
 |ret=>exact⟨G2,env2,s2,n2,x2,q2⟩
 |panic ch=>exact⟨G2,env2,s2,n2,x2,q2⟩
 |outgrown=>exact⟨G2,env2,s2,n2,x2,q2⟩
theorem ofCell_V{G:Ghost}{v:Value}{x:AV}(h:ofCell v=some x):V G x v:=by
 unfold ofCell at h
 split at h<;>cases h
 ·exact .bool _
 ·exact .int _ _
 ·exact .str _
 ·exact .nilp
 ·exact .nilf
 ·exact .slnil _ _ _ (λ_=>rfl) (λ_=>rfl)
theorem ofCells_V{G:Ghost}: ∀{l:List Value}{xs:List AV},ofCells l=some xs->xs.length=l.length/\ ∀(i:Nat)x y,xs[i]? =some x->l[i]? =some y->V G x y
 | [],xs,h=>by simp[ofCells]at h;subst h;simp
 |v::r,xs,h=>by
  simp only[ofCells]at h
  split at h
  ·rename_i x l h1 h2
   cases h
   obtain⟨e1,e2⟩:=ofCells_V (G:=G) h2
   refine⟨by simp[e1],λi a b ha hb=>?_⟩
   cases i with
   |zero=>simp at ha hb;subst ha;subst hb;exact ofCell_V h1
   |succ i=>exact e2 i a b (by simpa using ha) (by simpa using hb)
  ·cases h
theorem ofValue_V{G:Ghost}{v:Value}{x:AV}(h:ofValue v=some x):V G x v:=by
 unfold ofValue at h
 split at h
 ·rename_i cs
  split at h
  ·rename_i l hl
   cases h
   obtain⟨e1,e2⟩:=ofCells_V (G:=G) hl
   exact .agg _ _ (by simpa using e1) λi a b ha hb=>e2 i a b ha (by simpa using hb)
  ·cases h
 ·exact ofCell_V h
theorem oper_V{G:Ghost}{a:Act}(he:VEnv G env a.tmps){o:Operand}{x:AV}(h:oper env o=some x):V G x (a.eval o):=by
 cases o with
 |tmp t=>exact(he t x h).2
 |const v=>exact ofValue_V h
 |func f=>cases h;exact .fn f [] #[] rfl (by simp)
 |global g=>cases h
theorem opers_V{G:Ghost}{a:Act}(he:VEnv G env a.tmps): ∀{l:List Operand}{xs:List AV},opers env l=some xs->
  xs.length=l.length/\ ∀(i:Nat)x y,xs[i]? =some x->(l.map a.eval)[i]? =some y->V G x y
 | [],xs,h=>by simp[opers]at h;subst h;simp
 |o::r,xs,h=>by
  simp only[opers]at h
  split at h
  ·rename_i x l h1 h2
   cases h
   obtain⟨e1,e2⟩:=opers_V he h2
   refine⟨by simp[e1],λi a b ha hb=>?_⟩
   cases i with
   |zero=>simp at ha hb;subst ha;subst hb;exact oper_V he h1
   |succ i=>exact e2 i a b (by simpa using ha) (by simpa using hb)
  ·cases h
theorem opers_VL{G:Ghost}{a:Act}(he:VEnv G env a.tmps){l:Array Operand}{xs:List AV}(h:opers env l.toList=some xs):VL G xs (l.map a.eval):=by
 obtain⟨e1,e2⟩:=opers_V he h
 exact⟨by simpa using e1,λi x y hx hy=>e2 i x y hx (by simpa using hy)⟩
theorem awp_cond{c:Operand}{x y:Code}{b:Bool}(hc:oper env c=some (.bool b))(ht:b=true->AWp P N ρ x Q env s)(hf:b=false->AWp P N ρ y Q env s):
  AWp P N ρ (.cond c x y) Q env s:=λG w a hn=>by
 have hv:=oper_V hn.env hc
 generalize hq:a.eval c=v at hv
 cases hv
 exact wpIn_cond_split hq (λe=>ht e G w a hn) (λe=>hf e G w a hn)
theorem VEnv.sub{G:Ghost}{env env':Env}{tmps:Array Value}(h:VEnv G env tmps)(hs: ∀t x,eget env' t=some x->eget env t=some x):VEnv G env' tmps:=λt x hx=>h t x (hs t x hx)
theorem Defs.drop{G:Ghost}{s s':St}(hd: ∀id,eget s.heap id=some .dfr->eget s'.heap id=some .dfr): ∀{ds:List Deferred},Defs G s ds->Defs G s' ds
 | [],_=>trivial
 |_::_,⟨⟨id,r,a,b,c,d⟩,hr⟩=>⟨⟨id,r,hd id a,b,c,d⟩,Defs.drop hd hr⟩
theorem awp_weak{c:Code}{env':Env}{s':St}(h:AWp P N ρ c Q env' s')(he: ∀t x,eget env' t=some x->eget env t=some x)(hh: ∀id b,eget s'.heap id=some b->eget s.heap id=some b)
  (hc:s.cnt<=s'.cnt) (hd: ∀id,eget s.heap id=some .dfr->eget s'.heap id=some .dfr):AWp P N ρ c Q env s:=λ_ _ _ hn=>
 AWp.later h hn.sim hn.known (Ext.drop hh hc hd) ⟨hn.sim.drop hh hc,hn.env.sub he,hn.size,hn.defs.drop hd,hn.known⟩
end
end Go.Am
end
section
namespace Go.Am
open Go.RowKit
section
variable {P:Program} {G:Ghost} {s s':St} {w:World}
def Did(P:Program)(G:Ghost)(s:St)(w:World)(sem:Sem Value)(x:AV)(s':St):Prop:=
 ∃v G' w',sem.run P w=.ok v w'/\V G' x v/\Sim G' s' w'/\Ext G s w G' s' w'
theorem did_pure(hs:Sim G s w){sem:Sem Value}{x:AV}{v:Value}(hr:sem.run P w=.ok v w)(hv:V G x v):Did P G s w sem x s:=⟨v,G,w,hr,hv,hs,.refl _ _ _⟩
theorem run_info{t:TypeId}{i:TypeInfo}(h:P.info? t=some i)(w:World):(typeInfo t).run P w=.ok i w:=by simp[typeInfo,h]
theorem sizeT_info{t n:Nat}(h:sizeT P t=some n): ∃i,P.info? t=some i/\i.size=n:=by
 unfold sizeT at h
 cases hi:P.info? t with
 |none=>simp[hi]at h
 |some i=>simp[hi]at h;exact⟨i,rfl,h⟩
theorem bytesT_info{t n:Nat}(h:bytesT P t=some n): ∃i,P.info? t=some i/\i.bytes=n:=by
 unfold bytesT at h
 cases hi:P.info? t with
 |none=>simp[hi]at h
 |some i=>simp[hi]at h;exact⟨i,rfl,h⟩
theorem run_sizeT{t n:Nat}(h:sizeT P t=some n)(w:World):(sizeOf t).run P w=.ok n w:=by
 obtain⟨i,hi,rfl⟩:=sizeT_info h
 simp[sizeOf,run_info hi]
theorem run_aggT{t:Nat}{b:Bool}(h:aggT P t=some b)(w:World):(isAgg t).run P w=.ok b w:=by
 unfold aggT at h
 cases hu:P.underlying t with
 |none=>simp[hu]at h
 |some d=>
  simp only[hu,Option.map_some,Option.some.injEq]at h
  simp only[isAgg,Sem.run_bind,run_underlying hu,Result.andThen_ok]
  cases d<;>simp_all
theorem run_zeroT{t:Nat}{x:AV}(h:zeroT P t=some x)(w:World)(G:Ghost): ∃v,(zeroValue t).run P w=.ok v w/\V G x v:=by
 unfold zeroT at h
 cases hi:P.info? t with
 |none=>simp[hi]at h
 |some i=>
  cases hz:i.zero with
  |none=>simp[hi,hz]at h
  |some v=>
   simp[hi,hz]at h
   exact⟨v,by simp[zeroValue,run_info hi,hz],ofValue_V h⟩
theorem elemT_u{t e:Nat}(h:elemT P t=some e):P.underlying t=some (.slice e):=by
 unfold elemT at h
 split at h<;>simp_all
theorem arrT_u{t n e:Nat}(h:arrT P t=some (n,e)):P.underlying t=some (.array n e):=by
 unfold arrT at h
 split at h<;>simp_all
theorem strT_u{t:Nat}(h:strT P t=true):P.underlying t=some .string:=by
 unfold strT at h
 split at h<;>simp_all
theorem intT_u{t:Nat}{k:IntKind}(h:intT P t=some k):P.underlying t=some (.int k):=by
 unfold intT at h
 split at h<;>simp_all
theorem fieldT_u{t i off n:Nat}(h:fieldT P t i=some (off,n)): ∃fs f,P.underlying t=some (.struct fs)/\fs[i]? =some f/\f.offset=off/\sizeT P f.type=some n:=by
 unfold fieldT at h
 split at h
 ·rename_i fs hu
  split at h
  ·rename_i f hf
   split at h
   ·rename_i m hm
    cases h;exact⟨fs,f,hu,hf,rfl,hm⟩
   ·cases h
  ·cases h
 ·cases h
def There(G:Ghost)(w:World)(b o:Nat)(cs:List AV):Prop:= ∀k x,cs[k]? =some x-> ∃v,w.cell? ⟨b,o+k,none⟩=some v/\V G x v
theorem Sim.there(hs:Sim G s w){id el off esz:Nat}{elems:List AV}{e:AV}{r:Reg}(hg:eget s.heap id=some (.cells esz elems))(ho:G.own id=some r)(he:elems[el]? =some e):
  There G w r.block (r.base+el*r.esz+off) (e.cells.drop off):=by
 obtain⟨o,e2,e3⟩:=hs.at hg ho
 cases e3 with
 |cells _ _ cs ty hsz hesz h0 hel hsc hin hV=>
  intro k x hx
  rw[List.getElem?_drop]at hx
  obtain⟨v,hv,hx'⟩:=hV _ x (flat_at hel he (off+k) x hx)
  refine⟨v,?_,hx'⟩
  subst hesz
  simp only[World.cell?,e2]
  rw[show r.base+el*r.esz+off+k=r.base+(el*r.esz+(off+k))from by omega]
  simpa using hv
theorem cellsAt_there(hs:Sim G s w){p:AV}{pv:Value}(hp:V G p pv){cs:List AV}(h:cellsAt s p=some cs): ∃b o,pv=.pointer (some ⟨b,o,none⟩)/\There G w b o cs:=by
 cases hp with
 |mp id el off r ho=>
  simp only[cellsAt]at h
  split at h
  ·rename_i esz elems hg
   split at h
   ·rename_i e he
    cases h
    exact⟨_,_,rfl,hs.there hg ho he⟩
   ·cases h
  ·cases h
 |ip cells b off val himm hV=>
  cases h
  refine⟨b,off,rfl,λk x hx=>⟨val k,hs.imm _ _ _ (himm k (List.getElem?_eq_some_iff.1 hx).1),hV k x hx⟩⟩
 |_=>simp[cellsAt]at h
theorem add_at(b o n:Nat):(⟨b,o,none⟩:Addr).add n=⟨b,o+n,none⟩:=by unfold Addr.add;split<;>simp_all
theorem There.loadCells{b o n:Nat}{cs:List AV}(h:There G w b o cs)(hn:n<=cs.length): ∃vs:Array Value,(loadCells ⟨b,o,none⟩ n).run P w=.ok vs w/\VL G (cs.take n) vs:=by
 refine⟨((List.range n).map λj=>(w.cell? ⟨b,o+j,none⟩).getD undef).toArray,?_,?_⟩
 ·refine run_loadCells w _ n _ λj hj=>?_
  rw[add_at]
  have hl:j<cs.length:=by omega
  obtain⟨v,hv,_⟩:=h j cs[j] (List.getElem?_eq_getElem hl)
  simp[hv]
 ·refine⟨by simp;omega,λi x y hx hy=>?_⟩
  have hi:i<n:=by
   have:=(List.getElem?_eq_some_iff.1 hx).1
   simp at this;omega
  rw[List.getElem?_take,if_pos hi]at hx
  obtain⟨v,hv,hV⟩:=h i x hx
  simp[hi,hv]at hy
  subst hy;exact hV
theorem There.read{b o t:Nat}{cs:List AV}{x:AV}(h:There G w b o cs)(hr:readT P t cs=some x): ∃v,(loadVar t ⟨b,o,none⟩).run P w=.ok v w/\V G x v:=by
 unfold readT at hr
 split at hr
 ·rename_i ha
  split at hr
  ·rename_i n hn
   split at hr
   ·rename_i hle
    cases hr
    obtain⟨vs,e1,e2⟩:=h.loadCells (P:=P) hle
    exact⟨.agg vs,by simp[loadVar,run_aggT ha,run_sizeT hn,e1],.agg _ _ e2.1 e2.2⟩
   ·cases hr
  ·cases hr
 ·rename_i ha
  split at hr
  ·rename_i y l
   cases hr
   obtain⟨v,e1,e2⟩:=h 0 x rfl
   refine⟨v,?_,e2⟩
   simp only[Nat.add_zero]at e1
   simp[loadVar,run_aggT ha,e1]
  ·cases hr
 ·cases hr
theorem readT_part{t off:Nat}{cs:List AV}{vs:Array Value}{x:AV}(h:VL G cs vs)(hr:readT P t (cs.drop off)=some x): ∃v,(part t vs off).run P w=.ok v w/\V G x v:=by
 unfold readT at hr
 split at hr
 ·rename_i ha
  split at hr
  ·rename_i n hn
   split at hr
   ·rename_i hle
    cases hr
    refine⟨.agg (vs.extract off (off+n)),by simp[part,run_aggT ha,run_sizeT hn],.agg _ _ ?_ ?_⟩
    ·have:=h.1
     simp at hle ⊢
     omega
    ·intro i a b ha' hb
     have hi:i<n:=by
      have:=(List.getElem?_eq_some_iff.1 ha').1
      simp at this;omega
     rw[List.getElem?_take,if_pos hi,List.getElem?_drop]at ha'
     rw[Array.getElem?_extract]at hb
     split at hb
     ·exact h.2 _ _ _ ha' hb
     ·cases hb
   ·cases hr
  ·cases hr
 ·rename_i ha
  split at hr
  ·rename_i y l heq
   cases hr
   have hx:cs[off]? =some x:=by
    have:=congrArg (λl:List AV=>l[0]?) heq
    simpa[List.getElem?_drop]using this
   obtain⟨v,e1,e2⟩:=h.get hx
   refine⟨v,?_,e2⟩
   simp[part,run_aggT ha,e1]
  ·cases hr
 ·cases hr
theorem load_did(hs:Sim G s w){t:TypeId}{p x:AV}{pv:Value}(hp:V G p pv)(h:aLoad P t p s=some x):Did P G s w (Instr.loadAt t pv) x s:=by
 unfold aLoad at h
 split at h
 ·rename_i cs hc
  obtain⟨b,o,rfl,ht⟩:=cellsAt_there hs hp hc
  obtain⟨v,e1,e2⟩:=ht.read (P:=P) h
  exact did_pure hs (by simp[Instr.loadAt,Instr.sureAddr,e1]) e2
 ·cases h
theorem VL.length{cs:List AV}{vs:Array Value}(h:VL G cs vs):cs.length=vs.size:=h.1
theorem new_did(hs:Sim G s w){t:TypeId}{x y:AV}{v:Value}(hv:V G x v)(h:aNew x s=some (y,s')):Did P G s w (Instr.box t v) y s':=by
 unfold aNew at h
 split at h
 ·rename_i hc
  cases h
  have hx:x≠ .any:=λe=>by subst e;simp[AV.cells,AV.scalar]at hc
  have hl:=VL.cells hv hx
  obtain⟨h1,h2⟩:=hs.put (o:=.cells v.cells t) (blk:=.cells x.cells.length [x]) (r:=⟨w.heap.size,0,x.cells.length,v.cells.size⟩) rfl
   (.cells _ _ _ _ rfl rfl hc.1 (by simp) (by simpa[flat]using hc.2) (by simp[hl.1]) λk z hz=>by
    simp[flat]at hz
    obtain⟨u,e1,e2⟩:=hl.get hz
    exact⟨u,by simpa using e1,e2.mono (.put (hs.fresh _ (Nat.le_refl _)))⟩)
  refine⟨.pointer (some ⟨w.heap.size,0,none⟩),_,_,?_,?_,h1,h2⟩
  ·simp[Instr.box,newVar,newRow]
  ·have:=V.mp (G:=G.put s.cnt ⟨w.heap.size,0,x.cells.length,v.cells.size⟩) s.cnt 0 0 _ (by simp[Ghost.put];rfl)
   simpa using this
 ·cases h
theorem alloc_did(hs:Sim G s w){t:TypeId}{z y:AV}(hz:zeroT P t=some z)(h:aNew z s=some (y,s')):Did P G s w (Instr.alloc t true (.tuple #[])) y s':=by
 obtain⟨v,e1,e2⟩:=run_zeroT hz w G
 obtain⟨u,G',w',e3,e4⟩:=new_did (P:=P) (t:=t) hs e2 h
 refine⟨u,G',w',?_,e4⟩
 simp only[Instr.alloc,Sem.run_bind,e1,Result.andThen_ok]
 simpa[Instr.box]using e3
theorem V.oneCell{x:AV}{v:Value}(h:V G x v)(hx:x.scalar=true):v.oneCell'=true:=by
 cases h<;>simp_all[AV.scalar,Value.oneCell']
theorem list_splice_get(l:List AV)(k:Nat)(new:List AV)(i:Nat)(h:k+new.length<=l.length):
  (splice l k new)[i]? =if i<k then l[i]? else if i<k+new.length then new[i-k]? else l[i]?:=by
 unfold splice
 by_cases h1:i<k
 ·rw[List.getElem?_append_left (by simp;omega),if_pos h1,List.getElem?_take,if_pos h1]
 ·rw[List.getElem?_append_right (by simp;omega),if_neg h1]
  simp only[List.length_take,show min k l.length=k from by omega]
  by_cases h2:i<k+new.length
  ·rw[if_pos h2,List.getElem?_append_left (by omega)]
  ·rw[if_neg h2,List.getElem?_append_right (by omega),List.getElem?_drop]
   congr 1;omega
theorem splice_length(l:List AV)(k:Nat)(new:List AV)(h:k+new.length<=l.length):(splice l k new).length=l.length:=by
 simp[splice];omega
theorem array_mid_get(cur:Array Value)(k:Nat)(new:List Value)(i:Nat)(h:k+new.length<=cur.size):
  ((cur.toList.take k++new++cur.toList.drop (k+new.length)).toArray)[i]? =if i<k then cur[i]? else if i<k+new.length then new[i-k]? else cur[i]?:=by
 simp only[List.getElem?_toArray]
 by_cases h1:i<k
 ·rw[List.append_assoc,List.getElem?_append_left (by simp;omega),if_pos h1,List.getElem?_take,if_pos h1];simp
 ·rw[List.append_assoc,List.getElem?_append_right (by simp;omega),if_neg h1]
  simp only[List.length_take,Array.length_toList,show min k cur.size=k from by omega]
  by_cases h2:i<k+new.length
  ·rw[if_pos h2,List.getElem?_append_left (by omega)]
  ·rw[if_neg h2,List.getElem?_append_right (by omega),List.getElem?_drop]
   simp
   congr 1;omega
theorem reElem_cells(e:AV)(cs:List AV)(h:cs.length=e.cells.length)(hs: ∀x∈cs,x.scalar=true):(reElem e cs).cells=cs:=by
 have one:e.cells=[e]->(∀l,reElem e l=match l with|x::_=>x| []=>.any)->(reElem e cs).cells=cs:=λh1 h2=>by
  rw[h1]at h
  match cs,h with
  | [x],_=>
   have:=hs x (by simp)
   rw[h2]
   cases x<;>simp_all[AV.cells,AV.scalar]
 cases e with
 |agg l=>rfl
 |_=>exact one rfl λ_=>rfl
theorem setRow_other(w:World)(g:Nat)(cs:Array Value)(b:Nat)(h:b≠g):(w.setRow g cs).heap[b]? =w.heap[b]?:=by
 simp only[World.setRow,Array.getElem?_modify]
 rw[if_neg (by omega)]
theorem turn_row(hs:Sim G s w){id esz:Nat}{elems elems':List AV}{r:Reg}{cs:Array Value}{ty:TypeId}(hg:eget s.heap id=some (.cells esz elems))(ho:G.own id=some r)
  (hw:w.heap[r.block]? =some (.cells cs ty (0,0))) {cs':Array Value} (hsz:cs'.size=r.size) (hesz:r.esz=esz) (h0:0<esz) (hel: ∀x∈elems',x.cells.length=esz)
  (hsc: ∀x∈flat elems',x.scalar=true) (hin:r.base+elems'.length*esz<=r.size) (hV: ∀k x,(flat elems')[k]? =some x-> ∃v,cs'[r.base+k]? =some v/\V G x v):
  Sim G ⟨eset s.heap id (.cells esz elems'),s.cnt⟩ (w.setRow r.block cs')/\Ext G s w G ⟨eset s.heap id (.cells esz elems'),s.cnt⟩ (w.setRow r.block cs'):=
 hs.turn hg ho (by simp[World.setRow]) rfl rfl rfl (λb hb=>setRow_other w _ _ _ hb) (setRow_heap w _ cs cs' ty _ hw) (.cells esz elems' cs' ty hsz hesz h0 hel hsc hin hV) (by simp)
end
end Go.Am
end
section
namespace Go.Am
open Go.RowKit
section
variable {P:Program} {G:Ghost} {s s':St} {w:World}
theorem scal_of_all{l:List AV}(h:l.all AV.scalar=true): ∀x∈l,x.scalar=true:=by simpa using h
theorem not_any{x:AV}(h:x.cells.all AV.scalar=true):x≠ .any:=λe=>by subst e;simp[AV.cells,AV.scalar]at h
theorem VL.oneCells{cs:List AV}{vs:Array Value}(h:VL G cs vs)(hs: ∀x∈cs,x.scalar=true): ∀v∈vs.toList,v.oneCell'=true:=by
 intro v hv
 obtain⟨i,hi,rfl⟩:=List.getElem_of_mem hv
 have hi':i<cs.length:=by rw[h.1];simpa using hi
 exact(h.2 i cs[i] _ (List.getElem?_eq_getElem hi') (by simp)).oneCell (hs _ (List.getElem_mem hi'))
theorem div_mod_lt{k e m:Nat}(h0:0<m)(h:k / m=e):e*m<=k/\k<e*m+m/\k%m=k-e*m:=by
 subst h
 have h1:=Nat.div_add_mod k m
 have h2:=Nat.mod_lt k h0
 rw[Nat.mul_comm]at h1
 omega
theorem set_elem{elems:List AV}{el:Nat}{e:AV}(y:AV){i:Nat}{z:AV}(he:elems[el]? =some e)(h:(elems.set el y)[i]? =some z):(i=el/\z=y)\/(i≠el/\elems[i]? =some z):=by
 rw[List.getElem?_set]at h
 have hl:=(List.getElem?_eq_some_iff.1 he).1
 split at h
 ·rename_i hi
  subst hi
  cases h;exact .inl ⟨rfl,rfl⟩
 ·rename_i hi
  exact .inr ⟨λe=>hi e.symm,h⟩
theorem store_did(hs:Sim G s w){t:TypeId}{p x:AV}{pv v:Value}(hp:V G p pv)(hx:V G x v)(h:aStore P t p x s=some s'):
  ∃w',(Instr.storeAt t pv v).run P w=.ok () w'/\Sim G s' w'/\Ext G s w G s' w':=by
 unfold aStore at h
 split at h
 case h_2=>cases h
 rename_i id el off
 split at h
 case h_2=>cases h
 rename_i esz elems hg
 split at h
 case h_2=>cases h
 rename_i e he
 split at h
 case isFalse=>cases h
 rename_i hc
 obtain⟨hsz,hle,hall⟩:=hc
 cases h
 cases hp with
 |mp _ _ _ r ho=>
  have hl:=VL.cells hx (not_any hall)
  have hsc0:=scal_of_all hall
  obtain⟨o,e2,e3⟩:=hs.at hg ho
  cases e3 with
  |cells _ _ cs ty hcs hesz h0 hel hsc hin hV=>
   have helt:el<elems.length:=(List.getElem?_eq_some_iff.1 he).1
   have hecl:e.cells.length=esz:=hel e (List.mem_of_getElem? he)
   have hmul:(el+1)*esz<=elems.length*esz:=Nat.mul_le_mul_right _ helt
   rw[Nat.add_mul]at hmul
   have hlen:v.cells.toList.length=x.cells.length:=by simp[hl.1]
   have hfit:r.base+el*esz+off+0+v.cells.toList.length<=cs.size:=by rw[hlen,hcs];omega
   have hrun:=run_storeCells_at P r.block (r.base+el*esz+off) ty v.cells.toList 0 cs w e2 hfit (hl.oneCells hsc0)
   simp only[Nat.add_zero]at hrun hfit
   have hsp:(splice e.cells off x.cells).length=e.cells.length:=splice_length _ _ _ (by omega)
   have hspsc: ∀z∈splice e.cells off x.cells,z.scalar=true:=by
    intro z hz
    simp only[splice,List.mem_append]at hz
    have hec: ∀z∈e.cells,z.scalar=true:=λz hz=>hsc z (by rw[flat,List.mem_flatMap];exact⟨e,List.mem_of_getElem? he,hz⟩)
    rcases hz with hz|hz|hz
    ·exact hec z (List.mem_of_mem_take hz)
    ·exact hsc0 z hz
    ·exact hec z (List.mem_of_mem_drop hz)
   have hre:=reElem_cells e (splice e.cells off x.cells) hsp hspsc
   have hel': ∀y∈elems.set el (reElem e (splice e.cells off x.cells)),y.cells.length=esz:=by
    intro y hy
    rcases List.mem_or_eq_of_mem_set hy with hy|rfl
    ·exact hel y hy
    ·rw[hre,hsp,hecl]
   have hgetNew: ∀k z,(flat (elems.set el (reElem e (splice e.cells off x.cells))))[k]? =some z->
     ∃u,((cs.toList.take (r.base+el*esz+off)++v.cells.toList++cs.toList.drop (r.base+el*esz+off+v.cells.toList.length)).toArray)[r.base+k]? =some u/\V G z u:=by
    intro k z hz
    obtain⟨y,hy,hyz⟩:=flat_inv hel' h0 hz
    rw[array_mid_get _ _ _ _ hfit,hlen]
    rcases set_elem _ he hy with⟨hi,rfl⟩|⟨hi,hy'⟩
    ·obtain⟨m1,m2,m3⟩:=div_mod_lt h0 hi
     rw[hre,list_splice_get _ _ _ _ (by omega),m3]at hyz
     by_cases c1:r.base+k<r.base+el*esz+off
     ·rw[if_pos c1]
      rw[if_pos (by omega)]at hyz
      have:=flat_at hel he (k-el*esz) z hyz
      rw[show el*esz+(k-el*esz)=k from by omega]at this
      exact hV k z this
     ·rw[if_neg c1]
      rw[if_neg (by omega)]at hyz
      by_cases c2:r.base+k<r.base+el*esz+off+x.cells.length
      ·rw[if_pos c2]
       rw[if_pos (by omega)]at hyz
       obtain⟨u,e1,e2⟩:=hl.get hyz
       refine⟨u,?_,e2⟩
       rw[show r.base+k-(r.base+el*esz+off)=k-el*esz-off from by omega]
       simpa using e1
      ·rw[if_neg c2]
       rw[if_neg (by omega)]at hyz
       have:=flat_at hel he (k-el*esz) z hyz
       rw[show el*esz+(k-el*esz)=k from by omega]at this
       exact hV k z this
    ·have hk:=flat_at hel hy' (k%esz) z hyz
     rw[Nat.mul_comm,Nat.div_add_mod]at hk
     have hne: ¬(el*esz+off<=k/\k<el*esz+off+x.cells.length):=λ⟨a,b⟩=>hi (by
      have:k / esz=el:=Nat.div_eq_of_lt_le (by omega) (by rw[Nat.add_mul];omega)
      exact this)
     by_cases c1:r.base+k<r.base+el*esz+off
     ·rw[if_pos c1];exact hV k z hk
     ·rw[if_neg c1,if_neg (by omega)];exact hV k z hk
   have hscNew: ∀z∈flat (elems.set el (reElem e (splice e.cells off x.cells))),z.scalar=true:=by
    intro z hz
    rw[flat,List.mem_flatMap]at hz
    obtain⟨y,hy,hz⟩:=hz
    rcases List.mem_or_eq_of_mem_set hy with hy|rfl
    ·exact hsc z (by rw[flat,List.mem_flatMap];exact⟨y,hy,hz⟩)
    ·rw[hre]at hz;exact hspsc z hz
   obtain⟨q1,q2⟩:=turn_row hs hg ho e2 (cs':=(cs.toList.take (r.base+el*esz+off)++v.cells.toList++cs.toList.drop (r.base+el*esz+off+v.cells.toList.length)).toArray)
    (by simp only[List.size_toArray,List.length_append,List.length_take,List.length_drop,Array.length_toList]at hfit ⊢;omega) hesz h0 hel' hscNew (by simpa using hin) hgetNew
   refine⟨_,?_,q1,q2⟩
   subst hesz
   have hsz2:(sizeOf t).run P w=.ok v.cells.size w:=by rw[run_sizeT hsz,hl.1]
   simp[Instr.storeAt,Instr.sureAddr,storeVar,hsz2,hrun]
theorem fieldAddr_did{t:TypeId}{p x:AV}{i:Nat}{pv:Value}(hs:Sim G s w)(hp:V G p pv)(h:aField P t p i=some x):Did P G s w (Instr.fieldAt t pv i) x s:=by
 unfold aField at h
 split at h
 case h_2=>cases h
 rename_i off n hf
 obtain⟨fs,f,hu,hfi,hoff,hn⟩:=fieldT_u hf
 split at h
 ·cases h
 ·rename_i hn0
  have run: ∀b o,pv=.pointer (some ⟨b,o,none⟩)->(Instr.fieldAt t pv i).run P w=.ok (.pointer (some ⟨b,o+off,none⟩)) w:=λb o e=>by
   subst e
   simp[Instr.fieldAt,run_underlying hu,hfi,Instr.sureAddr,fieldPlace,run_sizeT hn,hn0,add_at,hoff]
  split at h
  ·cases h
   cases hp with
   |mp id el o r ho=>exact did_pure hs (run _ _ rfl) (by rw[Nat.add_assoc];exact .mp _ _ _ r ho)
  ·cases h
   cases hp with
   |ip cells b o val himm hV=>
    refine did_pure hs (run _ _ rfl) (.ip _ b (o+off) (λk=>val (off+k)) (λk hk=>?_) λk x hx=>?_)
    ·rw[Nat.add_assoc];exact himm _ (by simp at hk;omega)
    ·rw[List.getElem?_drop]at hx;exact hV _ x hx
  ·cases h
theorem field_did{t:TypeId}{p x:AV}{i:Nat}{pv:Value}(hs:Sim G s w)(hp:V G p pv)(h:aFieldV P t p i=some x):Did P G s w (Instr.field t pv i) x s:=by
 unfold aFieldV at h
 split at h
 case h_2=>cases h
 rename_i off n ft hf hft
 obtain⟨fs,f,hu,hfi,hoff,hn⟩:=fieldT_u hf
 have hft':f.type=ft:=by
  unfold ftypeT at hft
  rw[hu]at hft
  simp[hfi]at hft
  exact hft
 unfold aPart at h
 split at h
 case h_2=>cases h
 rename_i cs
 cases hp with
 |agg _ vs hlen hh=>
  subst hoff;subst hft'
  obtain⟨v,e1,e2⟩:=readT_part (P:=P) (w:=w) ⟨hlen,hh⟩ h
  exact did_pure hs (by simp[Instr.field,run_underlying hu,hfi,asAgg,e1]) e2
theorem V.sl_inv{full:Bool}{elems:List AV}{v:Value}(h:V G (.sl full elems) v): ∃base cap,v=.slice base elems.length cap/\elems.length<=cap/\(full=true->cap=elems.length)/\
  (base=none->cap=0)/\(elems=[]\/ ∃(b off esz:Nat)(val:Nat->Value),base=some ⟨b,off,none⟩/\(∀e∈elems,e.cells.length=esz)/\(∀x∈flat elems,x.scalar=true)/\
   (∀k,k<elems.length*esz->G.imm b (off+k)=some (val k))/\ ∀k x,(flat elems)[k]? =some x->V G x (val k)):=by
 cases h with
 |slnil full base cap hf hb=>exact⟨base,cap,rfl,Nat.zero_le _,λe=>hf e,hb,.inl rfl⟩
 |sl _ _ b off esz cap val hcap hfull hesz hsc himm hV=>exact⟨_,cap,rfl,hcap,hfull,(λe=>by cases e),.inr ⟨b,off,esz,val,rfl,hesz,hsc,himm,hV⟩⟩
theorem imm_there(hs:Sim G s w){elems:List AV}{b off esz:Nat}{val:Nat->Value}(hesz: ∀e∈elems,e.cells.length=esz)(himm: ∀k,k<elems.length*esz->G.imm b (off+k)=some (val k))
  (hV: ∀k x,(flat elems)[k]? =some x->V G x (val k)):There G w b off (flat elems):=λk x hx=>by
 have hk:k<elems.length*esz:=by rw[<-flat_length hesz];exact(List.getElem?_eq_some_iff.1 hx).1
 exact⟨val k,hs.imm _ _ _ (himm k hk),hV k x hx⟩
theorem indexAddr_did{t:TypeId}{p i x:AV}{pv iv:Value}(hs:Sim G s w)(hp:V G p pv)(hi:V G i iv)(h:aIndexAddr P t p i s=some x):Did P G s w (Instr.indexAt t pv iv) x s:=by
 unfold aIndexAddr at h
 split at h
 case h_2=>cases h
 rename_i kd n
 cases hi
 split at h
 ·rename_i e he
  have hu:=elemT_u he
  split at h
  ·rename_i full elems
   split at h
   case isFalse=>cases h
   rename_i hn
   split at h
   case h_2=>cases h
   rename_i y hy
   split at h
   case isFalse=>cases h
   rename_i hsz
   cases h
   obtain⟨base,cap,rfl,hle,_,_,hz⟩:=V.sl_inv hp
   have hlt:n.toNat<elems.length:=(List.getElem?_eq_some_iff.1 hy).1
   rcases hz with rfl|⟨b,off,esz,val,rfl,hesz,_,himm,hV⟩
   ·simp at hy
   ·have hye:y.cells.length=esz:=hesz y (List.mem_of_getElem? hy)
    have hnl:n<(elems.length:Int):=by omega
    have hmul:(n.toNat+1)*esz<=elems.length*esz:=Nat.mul_le_mul_right _ hlt
    rw[Nat.add_mul]at hmul
    refine did_pure hs (v:=.pointer (some ⟨b,off+n.toNat*esz,none⟩)) ?_ (.ip _ _ _ (λk=>val (n.toNat*esz+k)) (λk hk=>?_) λk z hz=>?_)
    ·rw[hye]at hsz
     simp[Instr.indexAt,asIntOf,run_underlying hu,hn,hnl,run_sizeT hsz,add_at]
    ·rw[Nat.add_assoc];exact himm _ (by omega)
    ·exact hV _ z (flat_at hesz hy k z hz)
  ·rename_i id start len
   split at h
   case h_2=>cases h
   rename_i esz elems hg
   split at h
   case isFalse=>cases h
   rename_i hc
   obtain⟨h1,h2,h3⟩:=hc
   cases h
   cases hp with
   |msnil _ _ _ _ _=>omega
   |ms _ _ _ cap r addr ho hle hin haddr=>
    obtain⟨o,e2,e3⟩:=hs.at hg ho
    cases e3 with
    |cells _ _ cs ty hcs hesz h0 hel hsc hin' hV=>
     have hcap:0<cap:=by omega
     rw[haddr hcap]
     refine did_pure hs (v:=.pointer (some ⟨r.block,r.base+(start+n.toNat)*r.esz+0,none⟩)) ?_ (.mp _ _ _ r ho)
     subst hesz
     simp[Instr.indexAt,asIntOf,run_underlying hu,h1,h2,run_sizeT h3,add_at,Nat.add_mul,Nat.add_assoc]
  ·cases h
 ·split at h
  case h_2=>cases h
  rename_i m e he
  have hu:=arrT_u he
  split at h
  case h_2=>cases h
  rename_i sz hsz
  split at h
  case isFalse=>cases h
  rename_i hc
  obtain⟨h1,h2⟩:=hc
  have run: ∀b o,pv=.pointer (some ⟨b,o,none⟩)->(Instr.indexAt t pv (.int kd n)).run P w=.ok (.pointer (some ⟨b,o+n.toNat*sz,none⟩)) w:=λb o e=>by
   subst e
   simp[Instr.indexAt,asIntOf,run_underlying hu,Instr.sureAddr,h1,h2,run_sizeT hsz,add_at]
  split at h
  ·cases h
   cases hp with
   |mp id el o r ho=>exact did_pure hs (run _ _ rfl) (by rw[Nat.add_assoc];exact .mp _ _ _ r ho)
  ·cases h
   cases hp with
   |ip cells b o val himm hV=>
    refine did_pure hs (run _ _ rfl) (.ip _ b _ (λk=>val (n.toNat*sz+k)) (λk hk=>?_) λk x hx=>?_)
    ·rw[Nat.add_assoc];exact himm _ (by simp at hk;omega)
    ·rw[List.getElem?_drop]at hx;exact hV _ x hx
  ·cases h
theorem index_did{t:TypeId}{p i x:AV}{pv iv:Value}(hs:Sim G s w)(hp:V G p pv)(hi:V G i iv)(h:aIndex P t p i=some x):Did P G s w (Instr.index t pv iv) x s:=by
 unfold aIndex at h
 split at h
 case h_2=>cases h
 rename_i kd n
 cases hi
 split at h
 ·rename_i b
  split at h
  case isFalse=>cases h
  rename_i hc
  split at h
  case h_2=>cases h
  rename_i c hb
  cases h
  cases hp
  exact did_pure hs (by simp[Instr.index,asIntOf,run_underlying (strT_u hc.1),hc.2,hb]) (.int _ _)
 ·rename_i cs
  split at h
  case h_2=>cases h
  rename_i m e he
  have hu:=arrT_u he
  split at h
  case h_2=>cases h
  rename_i sz hsz
  split at h
  case isFalse=>cases h
  rename_i hc
  cases hp with
  |agg _ vs hlen hh=>
   obtain⟨v,e1,e2⟩:=readT_part (P:=P) (w:=w) ⟨hlen,hh⟩ h
   exact did_pure hs (by simp[Instr.index,asIntOf,run_underlying hu,hc,run_sizeT hsz,e1]) e2
 ·cases h
end
end Go.Am
end
section
namespace Go.Am
open Go.RowKit
section
variable {P:Program} {G:Ghost} {s s':St} {w:World} {env:Env} {a:Act}
theorem aBound_run(he:VEnv G env a.tmps){x:Option Operand}{d l:Nat}(h:aBound env x d=some l):
  (x=none/\l=d)\/ ∃k n,x.map a.eval=some (.int k n)/\0<=n/\n.toNat=l:=by
 unfold aBound at h
 split at h
 ·cases h;exact .inl ⟨rfl,rfl⟩
 ·rename_i o
  split at h
  ·rename_i k n ho
   split at h
   ·rename_i hn
    cases h
    have hv:=oper_V he ho
    generalize hq:a.eval o=v at hv
    cases hv
    exact .inr ⟨k,n,by simp[hq],hn,rfl⟩
   ·cases h
  ·cases h
theorem run_bound{k:IntKind}{n:Int}{y:Nat}{c:BoundsCode}(h0:0<=n)(hy:n.toNat<=y)(w:World):(Instr.sliceBound (.int k n) y c).run P w=.ok n.toNat w:=by
 have:n<=(y:Int):=by omega
 simp[Instr.sliceBound,asIntOf,h0,this]
theorem run_bounds(he:VEnv G env a.tmps){lo hi mx:Option Operand}{isS:Bool}{len cap l h m:Nat}(hl:aBound env lo 0=some l)(hh:aBound env hi len=some h)
  (hm:(mx=none/\m=cap)\/(mx.isSome=true/\hi.isSome=true/\aBound env mx cap=some m)) (h1:l<=h) (h2:h<=m) (h3:m<=cap) (h4:mx=none->h<=cap):
  (Instr.sliceBounds isS len cap (lo.map a.eval) (hi.map a.eval) (mx.map a.eval)).run P w=.ok (l,h,m) w:=by
 unfold Instr.sliceBounds
 rcases hm with⟨rfl,rfl⟩|⟨m1,m2,m3⟩
 ·rcases aBound_run he hl with⟨rfl,rfl⟩|⟨k1,n1,e1,p1,rfl⟩<;>rcases aBound_run he hh with⟨rfl,rfl⟩|⟨k2,n2,e2,p2,rfl⟩
  ·simp
  ·simp[e2,run_bound p2 (h4 rfl)]
  ·simp[e1,run_bound p1 h1]
  ·simp[e1,e2,run_bound p1 h1,run_bound p2 (h4 rfl)]
 ·rcases aBound_run he m3 with⟨rfl,_⟩|⟨k3,n3,e3,p3,rfl⟩
  ·cases m1
  ·rcases aBound_run he hl with⟨rfl,rfl⟩|⟨k1,n1,e1,p1,rfl⟩<;>rcases aBound_run he hh with⟨rfl,rfl⟩|⟨k2,n2,e2,p2,rfl⟩
   ·cases m2
   ·simp[e2,e3,run_bound p2 h2,run_bound p3 h3]
   ·cases m2
   ·simp[e1,e2,e3,run_bound p1 h1,run_bound p2 h2,run_bound p3 h3]
theorem flat_take{elems:List AV}(n:Nat){x:AV}{esz:Nat}(hesz: ∀e∈elems,e.cells.length=esz)(h0:0<esz){k l:Nat}(hx:(flat ((elems.take n).drop l))[k]? =some x):
  (flat elems)[l*esz+k]? =some x:=by
 have hes': ∀e∈(elems.take n).drop l,e.cells.length=esz:=λe he=>hesz e (List.mem_of_mem_take (List.mem_of_mem_drop he))
 obtain⟨e,he,hk⟩:=flat_inv hes' h0 hx
 rw[List.getElem?_drop,List.getElem?_take]at he
 split at he
 ·have:=flat_at hesz he _ _ hk
  rw[show(l+k / esz)*esz+k%esz=l*esz+k from by rw[Nat.add_mul,Nat.add_assoc];congr 1;rw[Nat.mul_comm];exact Nat.div_add_mod k esz]at this
  exact this
 ·cases he
theorem fits_of{e:TypeId}{elems:List AV}{esz:Nat}(hf: ∀y∈elems.head?,sizeT P e=some y.cells.length)(hesz: ∀x∈elems,x.cells.length=esz)(hne:elems≠[]):sizeT P e=some esz:=by
 cases elems with
 |nil=>exact absurd rfl hne
 |cons x r=>rw[hf x (by simp),hesz x (by simp)]
theorem slice_sl(hs:Sim G s w)(he:VEnv G env a.tmps){t e:TypeId}{full full':Bool}{elems:List AV}{pv:Value}(hp:V G (.sl full elems) pv)(hu:elemT P t=some e)
  {lo hi mx:Option Operand} {l h:Nat} (hl:aBound env lo 0=some l) (hh:aBound env hi elems.length=some h) (h1:l<=h) (h2:h<=elems.length)
  (hf: ∀y∈elems.head?,sizeT P e=some y.cells.length) (hsz:(sizeT P e).isSome=true)
  (hm:(mx=none/\full'=(full&&h==elems.length))\/ ∃m,mx.isSome=true/\hi.isSome=true/\(∀d,aBound env mx d=some m)/\h<=m/\m<=elems.length/\full'=(m==h)):
  Did P G s w (Instr.sliceAt t pv (lo.map a.eval) (hi.map a.eval) (mx.map a.eval)) (.sl full' ((elems.take h).drop l)) s:=by
 obtain⟨base,cap,rfl,hle,hfull,hb,hz⟩:=V.sl_inv hp
 obtain⟨m,hbounds,hml,hmc,hfl⟩: ∃m,(Instr.sliceBounds true elems.length cap (lo.map a.eval) (hi.map a.eval) (mx.map a.eval)).run P w=.ok (l,h,m) w/\h<=m/\m<=cap/\(full'=true->m=h):=by
  rcases hm with⟨rfl,rfl⟩|⟨m,m1,m2,m3,m4,m5,rfl⟩
  ·refine⟨cap,run_bounds he hl hh (.inl ⟨rfl,rfl⟩) h1 (by omega) (Nat.le_refl _) (λ_=>by omega),by omega,Nat.le_refl _,λe=>?_⟩
   simp only[Bool.and_eq_true,beq_iff_eq]at e
   rw[hfull e.1,e.2]
  ·exact⟨m,run_bounds he hl hh (.inr ⟨m1,m2,m3 _⟩) h1 m4 (by omega) (λe=>by subst e;cases m1),m4,by omega,λe=>by simpa using e⟩
 have hlen:((elems.take h).drop l).length=h-l:=by simp;omega
 cases hq:sizeT P e with
 |none=>rw[hq]at hsz;cases hsz
 |some sz=>
  have run:(Instr.sliceAt t (.slice base elems.length cap) (lo.map a.eval) (hi.map a.eval) (mx.map a.eval)).run P w=
    .ok (.slice (if m=l then base else base.map (·.add (l*sz))) (h-l) (m-l)) w:=by
   simp[Instr.sliceAt,Instr.slice,run_underlying (elemT_u hu),hbounds,run_sizeT hq]
  refine did_pure hs run ?_
  by_cases hne:h=l
  ·subst hne
   have:(elems.take h).drop h=[]:=List.eq_nil_of_length_eq_zero (by omega)
   rw[this,Nat.sub_self]
   exact .slnil _ _ _ (λe=>by have:=hfl e;omega) (λe=>by
    split at e
    ·omega
    ·cases base with
     |none=>have:=hb rfl;omega
     |some a=>cases e)
  ·rcases hz with rfl|⟨b,off,esz,val,rfl,hesz,hsc,himm,hV⟩
   ·simp at h2;omega
   ·have hne':elems≠[]:=λe=>by subst e;simp at h2;omega
    have hsz':=fits_of hf hesz hne'
    rw[hq]at hsz';cases hsz'
    rw[if_neg (by omega),<-hlen]
    have h0:0<sz\/sz=0:=by omega
    simp only[Option.map_some,add_at]
    refine .sl _ _ b _ sz _ (λk=>val (l*sz+k)) (by rw[hlen];omega) (λe=>by rw[hlen,hfl e]) (λx hx=>hesz x (List.mem_of_mem_take (List.mem_of_mem_drop hx)))
     (λx hx=>hsc x (by
      rw[flat,List.mem_flatMap]at hx ⊢
      obtain⟨y,hy,hx⟩:=hx
      exact⟨y,List.mem_of_mem_take (List.mem_of_mem_drop hy),hx⟩)) (λk hk=>?_) λk x hx=>?_
    ·rw[Nat.add_assoc]
     refine himm _ ?_
     rw[hlen]at hk
     have:l*sz+(h-l)*sz<=elems.length*sz:=by rw[<-Nat.add_mul];exact Nat.mul_le_mul_right _ (by omega)
     omega
    ·rcases h0 with h0|h0
     ·exact hV _ x (flat_take h hesz h0 hx)
     ·exfalso
      have:(flat ((elems.take h).drop l)).length=0:=by
       rw[flat_length (esz:=sz) λx hx=>hesz x (List.mem_of_mem_take (List.mem_of_mem_drop hx)),h0];simp
      rw[List.eq_nil_of_length_eq_zero this]at hx
      simp at hx
theorem slice_did(hs:Sim G s w)(he:VEnv G env a.tmps){t:TypeId}{p x:AV}{pv:Value}{lo hi mx:Option Operand}(hp:V G p pv)(h:aSlice P t p env lo hi mx s=some x):
  Did P G s w (Instr.sliceAt t pv (lo.map a.eval) (hi.map a.eval) (mx.map a.eval)) x s:=by
 unfold aSlice at h
 split at h
 ·rename_i b
  split at h
  case isFalse=>cases h
  rename_i hc
  split at h
  case h_2=>cases h
  rename_i l h' hl hh
  split at h
  case isFalse=>cases h
  rename_i hlh
  cases h
  cases hp
  obtain⟨hc1,hc2⟩:=hc
  cases mx with
  |some _=>cases hc2
  |none=>
   have hb:=run_bounds (P:=P) (w:=w) (isS:=false) (cap:=b.size) he hl hh (.inl ⟨rfl,rfl⟩) hlh.1 hlh.2 (Nat.le_refl _) (λ_=>hlh.2)
   refine did_pure hs (v:=.string (b.extract l h')) ?_ (.str _)
   simp only[Option.map_none]at hb
   simp[Instr.sliceAt,Instr.slice,run_underlying (strT_u hc1),hb]
 ·rename_i full elems
  split at h
  case h_2=>cases h
  rename_i e hu
  split at h
  ·rename_i l h' hl hh
   split at h
   case isFalse=>cases h
   rename_i hc
   cases h
   exact slice_sl hs he hp hu hl hh hc.1 hc.2.1 hc.2.2.1 hc.2.2.2 (.inl ⟨rfl,rfl⟩)
  ·rename_i l h' m0 hl hh
   split at h
   case h_2=>cases h
   rename_i m hm
   split at h
   case isFalse=>cases h
   rename_i hc
   cases h
   exact slice_sl hs he hp hu hl hh hc.1 (by omega) hc.2.2.2.2.1 hc.2.2.2.2.2 (.inr ⟨m,rfl,hc.2.2.2.1,λd=>by simpa[aBound]using hm,hc.2.1,hc.2.2.1,rfl⟩)
  ·cases h
 ·rename_i id start len
  split at h
  case h_2=>cases h
  rename_i e hu
  split at h
  case h_2=>cases h
  rename_i esz elems hg
  have main: ∀{l h':Nat},aBound env lo 0=some l->aBound env hi len=some h'->l<=h'->h'<=len->sizeT P e=some esz->
    ((mx=none)\/ ∃m,mx.isSome=true/\hi.isSome=true/\(∀d,aBound env mx d=some m)/\h'<=m/\m<=len)->
    Did P G s w (Instr.sliceAt t pv (lo.map a.eval) (hi.map a.eval) (mx.map a.eval)) (.ms id (start+l) (h'-l)) s:=by
   intro l h' hl hh h1 h2 hsz hm
   cases hp with
   |msnil _ _ cap base hc=>
    subst hc
    obtain rfl:h'=0:=by omega
    obtain rfl:l=0:=by omega
    have hbounds:(Instr.sliceBounds true 0 0 (lo.map a.eval) (hi.map a.eval) (mx.map a.eval)).run P w=.ok (0,0,0) w:=by
     rcases hm with rfl|⟨m,m1,m2,m3,m4,m5⟩
     ·exact run_bounds he hl hh (.inl ⟨rfl,rfl⟩) h1 (Nat.le_refl _) (Nat.le_refl _) (λ_=>Nat.le_refl _)
     ·obtain rfl:m=0:=by omega
      exact run_bounds he hl hh (.inr ⟨m1,m2,m3 _⟩) h1 m4 (Nat.le_refl _) (λe=>by subst e;cases m1)
    exact did_pure hs (v:=.slice base 0 0) (by simp[Instr.sliceAt,Instr.slice,run_underlying (elemT_u hu),hbounds,run_sizeT hsz]) (.msnil _ _ _ _ rfl)
   |ms _ _ _ cap r addr ho hle hin haddr=>
    obtain⟨o,e2,e3⟩:=hs.at hg ho
    cases e3 with
    |cells _ _ cs ty hcs hesz h0 hel hsc hin' hV=>
     obtain⟨m,hbounds,hml,hmc⟩: ∃m,(Instr.sliceBounds true len cap (lo.map a.eval) (hi.map a.eval) (mx.map a.eval)).run P w=.ok (l,h',m) w/\h'<=m/\m<=cap:=by
      rcases hm with rfl|⟨m,m1,m2,m3,m4,m5⟩
      ·exact⟨cap,run_bounds he hl hh (.inl ⟨rfl,rfl⟩) h1 (by omega) (Nat.le_refl _) (λ_=>by omega),by omega,Nat.le_refl _⟩
      ·exact⟨m,run_bounds he hl hh (.inr ⟨m1,m2,m3 _⟩) h1 m4 (by omega) (λe=>by subst e;cases m1),m4,by omega⟩
     subst hesz
     have run:(Instr.sliceAt t (.slice (some ⟨r.block,addr,none⟩) len cap) (lo.map a.eval) (hi.map a.eval) (mx.map a.eval)).run P w=
       .ok (.slice (some ⟨r.block,if m=l then addr else addr+l*r.esz,none⟩) (h'-l) (m-l)) w:=by
      simp[Instr.sliceAt,Instr.slice,run_underlying (elemT_u hu),hbounds,run_sizeT hsz,add_at]
      split<;>rfl
     refine did_pure hs run (.ms _ _ _ _ r _ ho (by omega) ?_ λhpos=>?_)
     ·refine Nat.le_trans ?_ hin
      exact Nat.add_le_add_left (Nat.mul_le_mul_right _ (by omega)) _
     ·rw[if_neg (by omega),haddr (by omega),Nat.add_mul,Nat.add_assoc]
  split at h
  ·rename_i l h' hl hh
   split at h
   case isFalse=>cases h
   rename_i hc
   cases h
   exact main hl hh hc.1 hc.2.1 hc.2.2 (.inl rfl)
  ·rename_i l h' m0 hl hh
   split at h
   case h_2=>cases h
   rename_i m hm
   split at h
   case isFalse=>cases h
   rename_i hc
   cases h
   exact main hl hh hc.1 (by omega) hc.2.2.2.2 (.inr ⟨m,rfl,hc.2.2.2.1,λd=>by simpa[aBound]using hm,hc.2.1,hc.2.2.1⟩)
  ·cases h
 ·rename_i id start len cap
  split at h
  case h_2=>cases h
  rename_i e hu
  split at h
  case h_2=>cases h
  rename_i esz elems hg
  split at h
  case h_2=>cases h
  rename_i l h' hl hh
  split at h
  case isFalse=>cases h
  rename_i hc
  obtain⟨h1,h2,hsz⟩:=hc
  cases h
  cases hp with
  |mcnil _ _ base=>
   obtain rfl:h'=0:=by omega
   obtain rfl:l=0:=by omega
   have hbounds:=run_bounds (P:=P) (w:=w) (isS:=true) (len:=0) (cap:=0) (mx:=none) he hl hh (.inl ⟨rfl,rfl⟩) h1 (Nat.le_refl _) (Nat.le_refl _) (λ_=>Nat.le_refl _)
   simp only[Option.map_none]at hbounds
   exact did_pure hs (v:=.slice base 0 0) (by simp[Instr.sliceAt,Instr.slice,run_underlying (elemT_u hu),hbounds,run_sizeT hsz]) (.mcnil _ _ _)
  |mc _ _ _ _ r addr ho hle hin haddr=>
   obtain⟨o,e2,e3⟩:=hs.at hg ho
   cases e3 with
   |cells _ _ cs ty hcs hesz h0 hel hsc hin' hV=>
    have hbounds:=run_bounds (P:=P) (w:=w) (isS:=true) (len:=len) (cap:=cap) (mx:=none) he hl hh (.inl ⟨rfl,rfl⟩) h1 h2 (Nat.le_refl _) (λ_=>h2)
    simp only[Option.map_none]at hbounds
    subst hesz
    have run:(Instr.sliceAt t (.slice (some ⟨r.block,addr,none⟩) len cap) (lo.map a.eval) (hi.map a.eval) none).run P w=
      .ok (.slice (some ⟨r.block,if cap=l then addr else addr+l*r.esz,none⟩) (h'-l) (cap-l)) w:=by
     simp[Instr.sliceAt,Instr.slice,run_underlying (elemT_u hu),hbounds,run_sizeT hsz,add_at]
     split<;>rfl
    refine did_pure hs run (.mc _ _ _ _ r _ ho (by omega) ?_ λhpos=>?_)
    ·refine Nat.le_trans ?_ hin
     exact Nat.add_le_add_left (Nat.mul_le_mul_right _ (by omega)) _
    ·rw[if_neg (by omega),haddr (by omega),Nat.add_mul,Nat.add_assoc]
 ·cases h
end
end Go.Am
end
section
namespace Go.Am
open Go.RowKit
section
variable {P:Program} {G:Ghost} {s s':St} {w:World} {env:Env} {a:Act}
theorem Sim.move{w':World}(h:Sim G s w){id:Nat}{blk blk':Blk}{r r':Reg}{o:Obj}(hg:eget s.heap id=some blk)(ho:G.own id=some r)(hb:r'.block=r.block)
  (hs:w'.heap.size=w.heap.size) (hos:w'.os=w.os) (ht:w'.tape=w.tape) (hout:w'.output=w.output)
  (hk: ∀b,b≠r.block->w'.heap[b]? =w.heap[b]?) (hw:w'.heap[r.block]? =some o) (hh:Holds (G.put s.cnt r') r' blk' o) (hnd:blk≠ .dfr) (hdr:w.drawn<=w'.drawn:=by exact Nat.le_refl _):
  Sim (G.put s.cnt r') ⟨(s.cnt,blk')::edel s.heap id,s.cnt+1⟩ w'/\Ext G s w (G.put s.cnt r') ⟨(s.cnt,blk')::edel s.heap id,s.cnt+1⟩ w':=by
 have hle:GLe G (G.put s.cnt r'):=.put (h.fresh _ (Nat.le_refl _))
 have hne:id≠s.cnt:=λe=>by rw[h.fresh id (by omega)]at ho;cases ho
 have gold: ∀i b,eget ((s.cnt,blk')::edel s.heap id) i=some b->(i=s.cnt/\b=blk')\/(i≠s.cnt/\i≠id/\eget s.heap i=some b):=λi b hi=>by
  simp only[egetN,egetC]at hi
  split at hi
  ·cases hi;exact .inl ⟨by omega,rfl⟩
  ·rename_i h1
   rw[get_del]at hi
   split at hi
   ·cases hi
   ·exact .inr ⟨by omega,by omega,hi⟩
 have ownNe: ∀i,i≠s.cnt->(G.put s.cnt r').own i=G.own i:=λi hne=>by simp[Ghost.put,hne]
 have ownEq:(G.put s.cnt r').own s.cnt=some r':=by simp[Ghost.put]
 refine⟨⟨?_,?_,?_,?_,?_,?_⟩,⟨hle,hos,ht,hout,by omega,?_,?_,?_,?_,by simp,?_,λi hl ho'=>by rw[ownNe i (by omega)];exact ho',hdr⟩⟩
 ·intro b i v hi
  have hne:b≠r.block:=λe=>by subst e;have h2:=h.clear id _ r i hg ho;rw[show G.imm r.block i=some v from hi]at h2;cases h2
  have:=h.imm b i v hi
  rwa[World.cell?_of_block (w:=w) (hk b hne)]
 ·intro i b hi
  rcases gold i b hi with⟨rfl,rfl⟩|⟨n1,n2,hb'⟩
  ·exact .inl ⟨r',o,ownEq,by rw[hb];exact hw,hh⟩
  ·rcases h.heap i b hb' with⟨r1,o1,e1,e2,e3⟩|⟨e1,e2⟩
   ·exact .inl ⟨r1,o1,by rw[ownNe _ n1];exact e1,by rw[hk _ (h.apart i id b _ r1 r hb' hg e1 ho n2)];exact e2,e3.mono hle⟩
   ·exact .inr ⟨by rw[ownNe _ n1];exact e1,e2⟩
 ·intro i i' b b' r1 r2 h1 h2 o1 o2 hne'
  rcases gold i b h1 with⟨rfl,rfl⟩|⟨n1,m1,g1⟩<;>rcases gold i' b' h2 with⟨rfl,rfl⟩|⟨n2,m2,g2⟩
  ·exact absurd rfl hne'
  ·rw[ownEq]at o1;cases o1
   rw[ownNe _ n2]at o2
   rw[hb];exact h.apart id i' _ b' r r2 hg g2 ho o2 (λe=>m2 e.symm)
  ·rw[ownEq]at o2;cases o2
   rw[ownNe _ n1]at o1
   rw[hb];exact h.apart i id b _ r1 r g1 hg o1 ho m1
  ·rw[ownNe _ n1]at o1;rw[ownNe _ n2]at o2
   exact h.apart i i' b b' r1 r2 g1 g2 o1 o2 hne'
 ·intro i b r1 j hi ho'
  rcases gold i b hi with⟨rfl,rfl⟩|⟨n1,m1,g1⟩
  ·rw[ownEq]at ho';cases ho'
   rw[hb];exact h.clear id _ r j hg ho
  ·rw[ownNe _ n1]at ho'
   exact h.clear i b r1 j g1 ho'
 ·intro i hi
  rw[ownNe i (by simp at hi;omega)]
  exact h.fresh i (by simp at hi;omega)
 ·intro i b hi
  show i<s.cnt+1
  rcases gold i b hi with⟨rfl,rfl⟩|⟨n1,m1,g1⟩
  ·omega
  ·have:=h.lt i b g1;omega
 ·intro b hb' hn
  exact hk b λe=>hn ⟨id,blk,r,hg,ho,e.symm⟩
 ·intro b o v hi;exact .inl hi
 ·intro i r1 hi
  simp only[Ghost.put]at hi
  split at hi
  ·cases hi;exact .inr (.inr ⟨id,blk,r,hg,ho,hb.symm⟩)
  ·exact .inl hi
 ·intro i b hi
  rcases gold i b hi with⟨rfl,rfl⟩|⟨_,_,g⟩
  ·exact .inr (Nat.le_refl _)
  ·exact .inl ⟨_,g⟩
 ·intro i hi
  have h1:i≠s.cnt:=λe=>by
   subst e
   have:=h.lt s.cnt _ hi
   omega
  have h2:i≠id:=λe=>by subst e;rw[hg]at hi;cases hi;exact hnd rfl
  simp only[egetN,egetC]
  rw[if_neg (λe=>h1 e.symm),get_del,if_neg (λe=>h2 e.symm)]
  exact hi
theorem VL.append{xs ys:List AV}{vs us:Array Value}(h:VL G xs vs)(k:VL G ys us):VL G (xs++ys) (vs++us):=by
 refine⟨by simp[h.1,k.1],λi x y hx hy=>?_⟩
 by_cases hi:i<xs.length
 ·rw[List.getElem?_append_left hi]at hx
  rw[Array.getElem?_append_left (by rw[<-h.1];exact hi)]at hy
  exact h.2 i x y hx hy
 ·rw[List.getElem?_append_right (by omega)]at hx
  rw[Array.getElem?_append_right (by rw[<-h.1];omega),<-h.1]at hy
  exact k.2 _ x y hx hy
theorem firstCells_run(hs:Sim G s w){e:TypeId}{x:AV}{xv:Value}(hx:V G x xv){l:List AV}(hl:elemsOf x s=some l){sz:Nat}(hsz:sizeT P e=some sz)(hf:fitsV P e x s):
  (∀y∈l,y.cells.length=sz)/\(∀y∈flat l,y.scalar=true)/\(Builtin.lenOf xv).run P w=.ok l.length w/\
  ∀n,n<=l.length-> ∃vs,(∀w',(∀a,w'.cell? a=w.cell? a)->(Builtin.firstCells sz n xv).run P w'=.ok vs w')/\VL G (flat (l.take n)) vs:=by
 have load: ∀(b o n:Nat)(cs:List AV),There G w b o cs->n<=cs.length-> ∃vs,(∀w',(∀a,w'.cell? a=w.cell? a)->(loadCells ⟨b,o,none⟩ n).run P w'=.ok vs w')/\VL G (cs.take n) vs:=by
  intro b o n cs ht hn
  obtain⟨vs,e1,e2⟩:=ht.loadCells (P:=P) hn
  refine⟨vs,λw' hw=>?_,e2⟩
  have ht':There G w' b o cs:=λk x hx=>by rw[hw];exact ht k x hx
  obtain⟨vs',e1',e2'⟩:=ht'.loadCells (P:=P) hn
  have:vs'=vs:=by
   have q: ∀w':World,(∀a,w'.cell? a=w.cell? a)->(loadCells ⟨b,o,none⟩ n).run P w'=.ok ((List.range n).map λj=>(w.cell? ⟨b,o+j,none⟩).getD undef).toArray w':=λw' hw=>by
    refine run_loadCells w' _ n _ λj hj=>?_
    rw[add_at,hw]
    obtain⟨v,hv,_⟩:=ht j cs[j] (List.getElem?_eq_getElem (by omega))
    simp[hv]
   rw[q w' hw]at e1';rw[q w λ_=>rfl]at e1
   cases e1;cases e1';rfl
  rw[e1',this]
 unfold elemsOf at hl
 split at hl
 ·rename_i full elems
  cases hl
  obtain⟨base,cap,rfl,hle,_,hb,hz⟩:=V.sl_inv hx
  rcases hz with rfl|⟨b,off,esz,val,rfl,hesz,hsc,himm,hV⟩
  ·refine⟨by simp,by simp[flat],by simp[Builtin.lenOf],λn hn=>⟨#[],λw' _=>?_,by simp[flat];exact⟨rfl,by simp⟩⟩⟩
   have:n=0:=by simpa using hn
   subst this
   cases base<;>simp[Builtin.firstCells,loadCells,loadCellsFrom]
  ·have hall: ∀y∈l,y.cells.length=sz:=λy hy=>by
    have:=fits_of (P:=P) hf hesz (λe=>by subst e;cases hy)
    rw[hsz]at this;cases this;exact hesz y hy
   refine⟨hall,hsc,by simp[Builtin.lenOf],λn hn=>?_⟩
   obtain⟨vs,e1,e2⟩:=load b off (n*sz) _ (imm_there hs hesz himm hV) (by rw[flat_length hall];exact Nat.mul_le_mul_right _ hn)
   refine⟨vs,λw' hw=>by simpa[Builtin.firstCells]using e1 w' hw,?_⟩
   have:(flat l).take (n*sz)=flat (l.take n):=by
    conv=>lhs;rw[<-List.take_append_drop n l,flat_append]
    rw[List.take_append_of_le_length (by rw[flat_length (esz:=sz) λy hy=>hall y (List.mem_of_mem_take hy)];simp[Nat.min_eq_left hn])]
    rw[List.take_of_length_le (by rw[flat_length (esz:=sz) λy hy=>hall y (List.mem_of_mem_take hy)];simp[Nat.min_eq_left hn])]
   rwa[this]at e2
 ·rename_i id start len
  split at hl
  case h_2=>cases hl
  rename_i esz elems hg
  split at hl
  case isFalse=>cases hl
  rename_i hin
  cases hl
  have hf':sizeT P e=some esz:=by simpa[fitsV,hg]using hf
  rw[hsz]at hf';cases hf'
  cases hx with
  |msnil _ _ cap base hc=>
   subst hc
   rw[List.take_zero]
   refine⟨by simp,by simp[flat],by simp[Builtin.lenOf],λn hn=>?_⟩
   obtain rfl:n=0:=by simpa using hn
   refine⟨#[],λw' _=>?_,by simp[flat];exact⟨rfl,by simp⟩⟩
   cases base<;>simp[Builtin.firstCells,loadCells,loadCellsFrom]
  |ms _ _ _ cap r addr ho hle hin2 haddr=>
   obtain⟨o,e2,e3⟩:=hs.at hg ho
   cases e3 with
   |cells _ _ cs ty hcs hesz h0 hel hsc hin' hV=>
    subst hesz
    have hlen:((elems.drop start).take len).length=len:=by simp;omega
    have hmem: ∀y∈(elems.drop start).take len,y∈elems:=λy hy=>List.mem_of_mem_drop (List.mem_of_mem_take hy)
    refine⟨λy hy=>hel y (hmem y hy),λx hx=>hsc x (by
     rw[flat,List.mem_flatMap]at hx ⊢
     obtain⟨y,hy,hx⟩:=hx
     exact⟨y,hmem y hy,hx⟩),by simp[Builtin.lenOf];omega,λn hn=>?_⟩
    rw[hlen]at hn
    rw[List.take_take,Nat.min_eq_left hn]
    by_cases hn0:n=0
    ·subst hn0
     exact⟨#[],λw' _=>by simp[Builtin.firstCells,loadCells,loadCellsFrom],by simp[flat];exact⟨rfl,by simp⟩⟩
    ·have ht:There G w r.block (r.base+start*r.esz) (flat (elems.drop start)):=by
      intro k x hx
      have hd: ∀y∈elems.drop start,y.cells.length=r.esz:=λy hy=>hel y (List.mem_of_mem_drop hy)
      have hk:(flat elems)[start*r.esz+k]? =some x:=by
       have h3:=flat_take (n:=elems.length) (l:=start) hel h0 (k:=k) (x:=x) (by rw[List.take_length];exact hx)
       exact h3
      obtain⟨v,q1,q2⟩:=hV _ x hk
      exact⟨v,by simp only[World.cell?,e2];rw[Nat.add_assoc];simpa using q1,q2⟩
     have hd: ∀y∈elems.drop start,y.cells.length=r.esz:=λy hy=>hel y (List.mem_of_mem_drop hy)
     obtain⟨vs,q1,q2⟩:=load r.block (r.base+start*r.esz) (n*r.esz) _ ht (by rw[flat_length hd];exact Nat.mul_le_mul_right _ (by simp;omega))
     refine⟨vs,λw' hw=>by rw[haddr (by omega)];simpa[Builtin.firstCells]using q1 w' hw,?_⟩
     have ht2: ∀y∈(elems.drop start).take n,y.cells.length=r.esz:=λy hy=>hd y (List.mem_of_mem_take hy)
     have hln:((elems.drop start).take n).length=n:=by simp;omega
     have:(flat (elems.drop start)).take (n*r.esz)=flat ((elems.drop start).take n):=by
      conv=>lhs;rw[<-List.take_append_drop n (elems.drop start),flat_append]
      rw[List.take_append_of_le_length (by rw[flat_length ht2,hln];exact Nat.le_refl _)]
      rw[List.take_of_length_le (by rw[flat_length ht2,hln];exact Nat.le_refl _)]
     rwa[this]at q2
 ·cases hl
end
end Go.Am
end
