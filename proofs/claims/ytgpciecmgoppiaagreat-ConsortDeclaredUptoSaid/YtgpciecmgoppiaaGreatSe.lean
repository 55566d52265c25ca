/- A block made anew by a sort: what a block of ints holds, and where a slice lies. -/
import Derived.Test.YtgpciecmgoppiaaGreatAm31
import Derived.Sort.Row
set_option linter.all false
namespace Go.Am
open Go.RowKit
def qK(w:World)(n blk:Nat)(f:Array Value->Array Value)(os:Array Obj):World:={w with heap:=w.heap.modify blk (Go.Sort.onCells f)++os,drawn:=w.drawn+n}
theorem l9(w:World)(n blk:Nat)(f:Array Value->Array Value)(os:Array Obj){b:Nat}(hb:b<w.heap.size):
  (qK w n blk f os).heap[b]? =if blk=b then(w.heap[b]?).map (Go.Sort.onCells f)else w.heap[b]?:=by
 unfold qK
 grind
theorem sV{G:bS}{s:St}{w:World}(hs:eG G s w){id:Nat}{b0 b1:gM}{r:tx}(hg:bn s.heap id=some b0)(ho:G.own id=some r)(hd:b0≠ .gq)(n:Nat)(f:Array Value->Array Value)(os:Array Obj)
  (hh: ∀o,w.heap[r.block]? =some o->Holds G r b1 (Go.Sort.onCells f o)):
  eG G ⟨dM s.heap id b1,s.bN⟩ (qK w n r.block f os)/\Ext G s w G ⟨dM s.heap id b1,s.bN⟩ (qK w n r.block f os):=by
 have kc:=hs.jE hg ho;have get: ∀i b,bn (dM s.heap id b1) i=some b->(i=id/\b=b1)\/(i≠id/\bn s.heap i=some b):=by
  grind [eK]
 have tq: ∀i b,bn (dM s.heap id b1) i=some b-> ∃b',bn s.heap i=some b':=by
  grind
 refine⟨⟨?_,?_,?_,?_,hs.cj,?_⟩,⟨.refl G,rfl,rfl,rfl,?_,?_,λ_ _ _ h=>.inl h,λ_ _ h=>.inl h,?_,fw _,?_,λ_ _ h=>h,Nat.le_add_right _ _⟩⟩
 ·refine⟨λb o v hi=>?_,hs.lW.2⟩;have hb:=hs.qg hi;have fG:r.block≠b:=by
   rintro rfl;rw[hs.clear id b0 r o hg ho]at hi;cases hi
  have:=hs.ig b o v hi;unfold World.cell? at this |-
  simp_all[l9]
 ·intro i b h;rcases get i b h with⟨rfl,rfl⟩|⟨fG,h⟩
  ·simp_all[l9]
  ·rcases hs.heap i b h with⟨r',o',h1,h2,h3⟩|h1
   ·have abG:=hs.jE h h1;have oz:=hs.apart id i b0 b r r' hg h ho h1 (Ne.symm fG);simp_all[l9]
   grind
 ·intro i j b b' r1 r2 h1 h2 o1 o2 fG;obtain⟨c1,k1⟩:=tq i b h1;obtain⟨c2,k2⟩:=tq j b' h2;exact hs.apart i j c1 c2 r1 r2 k1 k2 o1 o2 fG
 ·intro i b r1 o h1 o1;obtain⟨c1,k1⟩:=tq i b h1;exact hs.clear i c1 r1 o k1 o1
 ·intro i b h;obtain⟨c1,k1⟩:=tq i b h;exact hs.lt i c1 k1
 ·show w.heap.size<=(w.heap.modify r.block _++os).size;simp
 ·intro b hb hn;have fG:r.block≠b:=by
   rintro rfl;exact hn ⟨id,b0,r,hg,ho,rfl⟩
  simp_all[l9]
 all_goals grind [eK]
theorem vK(l:List Int):de (l.map AV.i)=l.map AV.i:=by
 unfold de
 induction l with
 |nil=>rfl
 |cons x l ih=>simp_all
theorem ints_at{G:bS}{s:St}{w:World}(hs:eG G s w){id:Nat}{l:List Int}{r:tx}(hg:bn s.heap id=some (.cells 1 (l.map AV.i)))(ho:G.own id=some r):
  ∃cs e,w.heap[r.block]? =some (.cells cs e (0,0))/\cs.size=r.size/\r.cq=1/\r.bG+l.length<=r.size/\ ∀k x,l[k]? =some x->cs[r.bG+k]? =some (.int .i64 x):=by
 obtain⟨o,h1,h2⟩:=hs.at hg ho;generalize hb:gM.cells 1 (l.map AV.i)=b at h2;cases h2 with
 |cells cq elems cs e eB eo h0 jR kI ga hV=>
  injection hb with yi Gu
  subst yi;subst Gu;refine⟨cs,e,h1,eB,eo,by grind,λk x hk=>?_⟩;obtain⟨v,h3,h4⟩:=hV k (AV.i x) (by rw[vK,xR,hk];rfl);cases h4;exact h3
 |loop=>cases hb
 |gq=>cases hb
theorem zx{G:bS}{r:tx}{cs:Array Value}{e:TypeId}{l:List Int}(eB:cs.size=r.size)(eo:r.cq=1)(ga:r.bG+l.length<=r.size)(hV: ∀k x,l[k]? =some x->cs[r.bG+k]? =some (.int .i64 x)):
  Holds G r (.cells 1 (l.map AV.i)) (.cells cs e (0,0)):=
 .cells 1 (l.map AV.i) cs e eB eo (by decide) (λx hx=>by obtain⟨y,_,rfl⟩:=mS.1 hx;rfl) (λx hx=>by rw[vK]at hx;obtain⟨y,_,rfl⟩:=mS.1 hx;rfl) (by grind)
  (λk x hk=>by
   rw[vK,xR]at hk;obtain⟨y,h1,rfl⟩:=L2.1 hk;exact⟨_,hV k y h1,.int _ _⟩)
theorem zy{β:Type}[Inhabited β]{f:β->Value}{w:World}{b off:Nat}{cs:Array Value}{e:TypeId}{l:List β}(h:w.heap[b]? =some (.cells cs e (0,0)))(hV: ∀k x,l[k]? =some x->cs[off+k]? =some (f x)):
  Go.Sort.Holds f w b off l.toArray:=by
 intro j hj;have hj':j<l.length:=by grind
 have h1:=hV j l[j] (dF hj');have h2:l.toArray[j]! =l[j]:=by grind
 constructor
 ·unfold World.cell?
  grind
 ·unfold World.frozen?
  grind
theorem ES{off:Nat}{cs:Array Value}{d:List Int}(ga:off+d.length<=cs.size): ∀k x,d[k]? =some x->(Go.Sort.putCells (Value.int .i64) off d.toArray cs)[off+k]? =some (.int .i64 x):=by
 intro k x hk;have ZG:=(lf.1 hk).1;unfold Go.Sort.putCells
 grind
theorem Ol{G:bS}{s:St}{w:World}(hs:eG G s w){id n:Nat}{v:Value}(h:V G (.ms id 0 n) v)(hn:0<n): ∃r cap,G.own id=some r/\v=.slice (some ⟨r.block,r.bG,none⟩) n cap/\n<=cap/\r.bG+cap*r.cq<=r.size:=by
 generalize hx:AV.ms id 0 n=x at h;cases h with
 |ms fq bq len cap r addr ho eR ga iK=>
  injection hx with e1 e2 e3
  subst e1;subst e2;subst e3;have:=iK (by omega);simp_all
 |gO fq bq cap bG hc=>
  grind
 |_=>cases hx
end Go.Am
