/- A block made anew by a sort: what a block of ints holds, and where a slice lies. -/
import Derived.Test.YtpbahncblggodaaGreatAm31
import Derived.Sort.Row
set_option linter.all false
namespace Go.Am
open Go.RowKit
def sH(w:World)(n blk:Nat)(f:Array Value->Array Value)(os:Array Obj):World:={w with heap:=w.heap.modify blk (Go.Sort.onCells f)++os,drawn:=w.drawn+n}
theorem mQ(w:World)(n blk:Nat)(f:Array Value->Array Value)(os:Array Obj){b:Nat}(hb:b<w.heap.size):
  (sH w n blk f os).heap[b]? =if blk=b then(w.heap[b]?).map (Go.Sort.onCells f)else w.heap[b]?:=by
 unfold sH
 simp only[Array.getElem?_append,Array.size_modify,hb,if_true,Array.getElem?_modify]
theorem sI{G:bZ}{s:St}{w:World}(hs:eA G s w){id:Nat}{b0 b1:gp}{r:ux}(hg:bH s.heap id=some b0)(ho:G.own id=some r)(hd:b0≠ .gb)(n:Nat)(f:Array Value->Array Value)(os:Array Obj)
  (hh: ∀o,w.heap[r.block]? =some o->Holds G r b1 (Go.Sort.onCells f o)):
  eA G ⟨dT s.heap id b1,s.bS⟩ (sH w n r.block f os)/\Ext G s w G ⟨dT s.heap id b1,s.bS⟩ (sH w n r.block f os):=by
 have gh:=hs.iY hg ho
 have get: ∀i b,bH (dT s.heap id b1) i=some b->(i=id/\b=b1)\/(i≠id/\bH s.heap i=some b):=by
  intro i b h
  rw[eC]at h
  split at h
  ·cases h;exact .inl ⟨by omega,rfl⟩
  ·exact .inr ⟨by omega,h⟩
 have pD: ∀i b,bH (dT s.heap id b1) i=some b-> ∃b',bH s.heap i=some b':=by
  intro i b h
  rcases get i b h with⟨rfl,_⟩|⟨_,h⟩
  ·exact⟨_,hg⟩
  ·exact⟨_,h⟩
 refine⟨⟨?_,?_,?_,?_,hs.cq,?_⟩,⟨.refl G,rfl,rfl,rfl,?_,?_,λ_ _ _ h=>.inl h,λ_ _ h=>.inl h,?_,eu _,?_,λ_ _ h=>h,Nat.le_add_right _ _⟩⟩
 ·intro b o v hi
  have hb:=hs.rR hi
  have eJ:r.block≠b:=by
   rintro rfl
   rw[hs.clear id b0 r o hg ho]at hi;cases hi
  have:=hs.gD b o v hi
  unfold World.cell? at this |-
  rw[mQ w n r.block f os hb,if_neg eJ]
  exact this
 ·intro i b h
  rcases get i b h with⟨rfl,rfl⟩|⟨eJ,h⟩
  ·obtain⟨o,h1,h2⟩:=hs.at hg ho
   exact .inl ⟨r,_,ho,by rw[mQ w n r.block f os gh,if_pos rfl,h1];rfl,hh o h1⟩
  ·rcases hs.heap i b h with⟨r',o',h1,h2,h3⟩|h1
   ·have aaj:=hs.iY h h1
    have mE:=hs.apart id i b0 b r r' hg h ho h1 (Ne.symm eJ)
    exact .inl ⟨r',o',h1,by rw[mQ w n r.block f os aaj,if_neg mE];exact h2,h3⟩
   ·exact .inr h1
 ·intro i j b b' r1 r2 h1 h2 o1 o2 eJ
  obtain⟨c1,k1⟩:=pD i b h1
  obtain⟨c2,k2⟩:=pD j b' h2
  exact hs.apart i j c1 c2 r1 r2 k1 k2 o1 o2 eJ
 ·intro i b r1 o h1 o1
  obtain⟨c1,k1⟩:=pD i b h1
  exact hs.clear i c1 r1 o k1 o1
 ·intro i b h
  obtain⟨c1,k1⟩:=pD i b h
  exact hs.lt i c1 k1
 ·show w.heap.size<=(w.heap.modify r.block _++os).size
  simp
 ·intro b hb hn
  have eJ:r.block≠b:=by
   rintro rfl
   exact hn ⟨id,b0,r,hg,ho,rfl⟩
  rw[mQ w n r.block f os hb,if_neg eJ]
 ·intro i b h
  exact .inl (pD i b h)
 ·intro i h
  show bH (dT s.heap id b1) i=some .gb
  rw[eC]
  split
  ·subst_vars
   rw[hg]at h;cases h
   exact absurd rfl hd
  ·exact h
theorem vg(l:List Int):di (l.map AV.i)=l.map AV.i:=by
 unfold di
 induction l with
 |nil=>rfl
 |cons x l ih=>simp only[wy,E5,ih];rfl
theorem ints_at{G:bZ}{s:St}{w:World}(hs:eA G s w){id:Nat}{l:List Int}{r:ux}(hg:bH s.heap id=some (.cells 1 (l.map AV.i)))(ho:G.own id=some r):
  ∃cs e,w.heap[r.block]? =some (.cells cs e (0,0))/\cs.size=r.size/\r.cz=1/\r.bQ+l.length<=r.size/\ ∀k x,l[k]? =some x->cs[r.bQ+k]? =some (.int .i64 x):=by
 obtain⟨o,h1,h2⟩:=hs.at hg ho
 generalize hb:gp.cells 1 (l.map AV.i)=b at h2
 cases h2 with
 |cells cz elems cs e eo dS h0 iz jg eP hV=>
  injection hb with uF wC
  subst uF;subst wC
  refine⟨cs,e,h1,eo,dS,by simpa using eP,λk x hk=>?_⟩
  obtain⟨v,h3,h4⟩:=hV k (AV.i x) (by rw[vg,sK,hk];rfl)
  cases h4
  exact h3
 |loop=>cases hb
 |gb=>cases hb
theorem yS{G:bZ}{r:ux}{cs:Array Value}{e:TypeId}{l:List Int}(eo:cs.size=r.size)(dS:r.cz=1)(eP:r.bQ+l.length<=r.size)(hV: ∀k x,l[k]? =some x->cs[r.bQ+k]? =some (.int .i64 x)):
  Holds G r (.cells 1 (l.map AV.i)) (.cells cs e (0,0)):=
 .cells 1 (l.map AV.i) cs e eo dS (by decide) (λx hx=>by obtain⟨y,_,rfl⟩:=kb.1 hx;rfl) (λx hx=>by rw[vg]at hx;obtain⟨y,_,rfl⟩:=kb.1 hx;rfl) (by simpa using eP)
  (λk x hk=>by
   rw[vg,sK]at hk
   obtain⟨y,h1,rfl⟩:=GH.1 hk
   exact⟨_,hV k y h1,.int _ _⟩)
theorem yT{β:Type}[Inhabited β]{f:β->Value}{w:World}{b off:Nat}{cs:Array Value}{e:TypeId}{l:List β}(h:w.heap[b]? =some (.cells cs e (0,0)))(hV: ∀k x,l[k]? =some x->cs[off+k]? =some (f x)):
  Go.Sort.Holds f w b off l.toArray:=by
 intro j hj
 have XY:j<l.length:=by simpa using hj
 have h1:=hV j l[j] (dC XY)
 have h2:l.toArray[j]! =l[j]:=by rw[getElem!_pos _ j hj];simp
 constructor
 ·unfold World.cell?
  rw[h,h2]
  simpa using h1
 ·unfold World.frozen?
  rw[h]
  simp
theorem El{off:Nat}{cs:Array Value}{d:List Int}(eP:off+d.length<=cs.size): ∀k x,d[k]? =some x->(Go.Sort.putCells (Value.int .i64) off d.toArray cs)[off+k]? =some (.int .i64 x):=by
 intro k x hk
 have TW:=(fM.1 hk).1
 unfold Go.Sort.putCells
 rw[Array.getElem?_mapIdx,JP (by omega),gl,if_pos ⟨by omega,by simp;omega⟩]
 have:off+k-off=k:=by omega
 rw[this,getElem!_pos _ k (by simpa using TW)]
 obtain⟨h1,h2⟩:=fM.1 hk
 simp[h2]
theorem Ni{G:bZ}{s:St}{w:World}(hs:eA G s w){id n:Nat}{v:Value}(h:V G (.ms id 0 n) v)(hn:0<n): ∃r cap,G.own id=some r/\v=.slice (some ⟨r.block,r.bQ,none⟩) n cap/\n<=cap/\r.bQ+cap*r.cz<=r.size:=by
 generalize hx:AV.ms id 0 n=x at h
 cases h with
 |ms fq bL len cap r addr ho ep eP gm=>
  injection hx with e1 e2 e3
  subst e1;subst e2;subst e3
  have:=gm (by omega)
  simp only[T7,CD]at this
  subst this
  exact⟨r,cap,ho,rfl,ep,by simpa using eP⟩
 |gn fq bL cap bQ hc=>
  injection hx with e1 e2 e3
  omega
 |_=>cases hx
end Go.Am
