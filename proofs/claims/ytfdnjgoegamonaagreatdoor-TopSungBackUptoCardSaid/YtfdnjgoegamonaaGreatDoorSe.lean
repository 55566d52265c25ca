/- A block made anew by a sort: what a block of ints holds, and where a slice lies. -/
import Derived.Test.YtfdnjgoegamonaaGreatDoorAm31
import Derived.Sort.Row
set_option linter.all false
namespace Go.Am
open Go.RowKit
def pV(w:World)(n blk:Nat)(f:Array Value->Array Value)(os:Array Obj):World:={w with heap:=w.heap.modify blk (Go.Sort.onCells f)++os,drawn:=w.drawn+n}
theorem ma(w:World)(n blk:Nat)(f:Array Value->Array Value)(os:Array Obj){b:Nat}(hb:b<w.heap.size):
  (pV w n blk f os).heap[b]? =if blk=b then(w.heap[b]?).map (Go.Sort.onCells f)else w.heap[b]?:=by
 unfold pV;simp only[Array.getElem?_append,Array.size_modify,hb,wz,Array.getElem?_modify]
theorem tv{G:cx}{s:St}{w:World}(hs:eQ G s w){id:Nat}{b0 b1:gU}{r:ua}(hg:bJ s.heap id=some b0)(ho:G.own id=some r)(hd:b0≠ .gK)(n:Nat)(f:Array Value->Array Value)(os:Array Obj)
  (hh: ∀o,w.heap[r.block]? =some o->Holds G r b1 (Go.Sort.onCells f o)):
  eQ G ⟨eF s.heap id b1,s.cr⟩ (pV w n r.block f os)/\Ext G s w G ⟨eF s.heap id b1,s.cr⟩ (pV w n r.block f os):=by
 have gl:=hs.jy hg ho;have get: ∀i b,bJ (eF s.heap id b1) i=some b->(i=id/\b=b1)\/(i≠id/\bJ s.heap i=some b):=by
  intro i b h;rw[ff]at h;split at h
  ·cases h;exact .inl ⟨by omega,rfl⟩
  ·exact .inr ⟨by omega,h⟩
 have qq: ∀i b,bJ (eF s.heap id b1) i=some b-> ∃b',bJ s.heap i=some b':=by
  intro i b h;rcases get i b h with⟨rfl,_⟩|⟨_,h⟩
  ·exact⟨_,hg⟩
  ·exact⟨_,h⟩
 refine⟨⟨?_,?_,?_,?_,hs.cE,?_⟩,⟨.refl G,rfl,rfl,rfl,?_,?_,λ_ _ _ h=>.inl h,λ_ _ h=>.inl h,?_,eD _,?_,λ_ _ h=>h,Nat.le_add_right _ _⟩⟩
 ·refine⟨λb o v hi=>?_,hs.kS.2⟩;have hb:=hs.pB hi;have eU:r.block≠b:=by
   rintro rfl;rw[hs.clear id b0 r o hg ho]at hi;cases hi
  have:=hs.ir b o v hi;unfold World.cell? at this |-
  rw[ma w n r.block f os hb,dY eU];exact this
 ·intro i b h;rcases get i b h with⟨rfl,rfl⟩|⟨eU,h⟩
  ·obtain⟨o,h1,h2⟩:=hs.at hg ho;exact .inl ⟨r,_,ho,by rw[ma w n r.block f os gl,dP rfl,h1];rfl,hh o h1⟩
  ·rcases hs.heap i b h with⟨r',o',h1,h2,h3⟩|h1
   ·have aaJ:=hs.jy h h1;have nH:=hs.apart id i b0 b r r' hg h ho h1 (Ne.symm eU);exact .inl ⟨r',o',h1,by rw[ma w n r.block f os aaJ,dY nH];exact h2,h3⟩
   ·exact .inr h1
 ·intro i j b b' r1 r2 h1 h2 o1 o2 eU;obtain⟨c1,k1⟩:=qq i b h1;obtain⟨c2,k2⟩:=qq j b' h2;exact hs.apart i j c1 c2 r1 r2 k1 k2 o1 o2 eU
 ·intro i b r1 o h1 o1;obtain⟨c1,k1⟩:=qq i b h1;exact hs.clear i c1 r1 o k1 o1
 ·intro i b h;obtain⟨c1,k1⟩:=qq i b h;exact hs.lt i c1 k1
 ·show w.heap.size<=(w.heap.modify r.block _++os).size;simp
 ·intro b hb hn;have eU:r.block≠b:=by
   rintro rfl;exact hn ⟨id,b0,r,hg,ho,rfl⟩
  rw[ma w n r.block f os hb,dY eU]
 ·intro i b h;exact .inl (qq i b h)
 ·intro i h;show bJ (eF s.heap id b1) i=some .gK;rw[ff];split
  ·subst_vars
   rw[hg]at h;cases h;exact absurd rfl hd
  ·exact h
theorem vQ(l:List Int):dB (l.map AV.i)=l.map AV.i:=by
 unfold dB
 induction l with
 |nil=>rfl
 |cons x l ih=>simp only[wy,F6,ih];rfl
theorem ints_at{G:cx}{s:St}{w:World}(hs:eQ G s w){id:Nat}{l:List Int}{r:ua}(hg:bJ s.heap id=some (.cells 1 (l.map AV.i)))(ho:G.own id=some r):
  ∃cs e,w.heap[r.block]? =some (.cells cs e (0,0))/\cs.size=r.size/\r.cN=1/\r.cn+l.length<=r.size/\ ∀k x,l[k]? =some x->cs[r.cn+k]? =some (.int .i64 x):=by
 obtain⟨o,h1,h2⟩:=hs.at hg ho;generalize hb:gU.cells 1 (l.map AV.i)=b at h2;cases h2 with
 |cells cN elems cs e eG eE h0 ja jH fB hV=>
  injection hb with uj wE
  subst uj;subst wE;refine⟨cs,e,h1,eG,eE,by simpa using fB,λk x hk=>?_⟩;obtain⟨v,h3,h4⟩:=hV k (AV.i x) (by rw[vQ,sW,hk];rfl);cases h4;exact h3
 |loop=>cases hb
 |gK=>cases hb
theorem zK{G:cx}{r:ua}{cs:Array Value}{e:TypeId}{l:List Int}(eG:cs.size=r.size)(eE:r.cN=1)(fB:r.cn+l.length<=r.size)(hV: ∀k x,l[k]? =some x->cs[r.cn+k]? =some (.int .i64 x)):
  Holds G r (.cells 1 (l.map AV.i)) (.cells cs e (0,0)):=
 .cells 1 (l.map AV.i) cs e eG eE (by decide) (λx hx=>by obtain⟨y,_,rfl⟩:=kl.1 hx;rfl) (λx hx=>by rw[vQ]at hx;obtain⟨y,_,rfl⟩:=kl.1 hx;rfl) (by simpa using fB)
  (λk x hk=>by
   rw[vQ,sW]at hk;obtain⟨y,h1,rfl⟩:=D5.1 hk;exact⟨_,hV k y h1,.int _ _⟩)
theorem zL{β:Type}[Inhabited β]{f:β->Value}{w:World}{b off:Nat}{cs:Array Value}{e:TypeId}{l:List β}(h:w.heap[b]? =some (.cells cs e (0,0)))(hV: ∀k x,l[k]? =some x->cs[off+k]? =some (f x)):
  Go.Sort.Holds f w b off l.toArray:=by
 intro j hj;have Y9:j<l.length:=by simpa using hj
 have h1:=hV j l[j] (dR Y9);have h2:l.toArray[j]! =l[j]:=by rw[Gb _ j hj];simp
 constructor
 ·unfold World.cell?;rw[h,h2];simpa using h1
 ·unfold World.frozen?;rw[h];simp
theorem Fc{off:Nat}{cs:Array Value}{d:List Int}(fB:off+d.length<=cs.size): ∀k x,d[k]? =some x->(Go.Sort.putCells (Value.int .i64) off d.toArray cs)[off+k]? =some (.int .i64 x):=by
 intro k x hk;have Uh:=(fT.1 hk).1;unfold Go.Sort.putCells;rw[Array.getElem?_mapIdx,Lj (by omega),gX,dP ⟨by omega,by simp;omega⟩];have:off+k-off=k:=by omega
 rw[this,Gb _ k (by simpa using Uh)];obtain⟨h1,h2⟩:=fT.1 hk;simp[h2]
theorem NO{G:cx}{s:St}{w:World}(hs:eQ G s w){id n:Nat}{v:Value}(h:V G (.ms id 0 n) v)(hn:0<n): ∃r cap,G.own id=some r/\v=.slice (some ⟨r.block,r.cn,none⟩) n cap/\n<=cap/\r.cn+cap*r.cN<=r.size:=by
 generalize hx:AV.ms id 0 n=x at h;cases h with
 |ms fL b9 len cap r addr ho eP fB gY=>
  injection hx with e1 e2 e3
  subst e1;subst e2;subst e3;have:=gY (by omega);simp only[VU,DO]at this;subst this;exact⟨r,cap,ho,rfl,eP,by simpa using fB⟩
 |ia fL b9 cap cn hc=>
  injection hx with e1 e2 e3
  omega
 |_=>cases hx
end Go.Am
