/- A block made anew by a sort: what a block of ints holds, and where a slice lies. -/
import Derived.Test.YtpbahncblggodaaGreatAm31
import Derived.Sort.Row
set_option linter.all false
namespace Go.Am
open Go.RowKit
def tn(w:World)(n blk:Nat)(f:Array Value->Array Value)(os:Array Obj):World:={w with heap:=w.heap.modify blk (Go.Sort.onCells f)++os,drawn:=w.drawn+n}
theorem nk(w:World)(n blk:Nat)(f:Array Value->Array Value)(os:Array Obj){b:Nat}(hb:b<w.heap.size):
  (tn w n blk f os).heap[b]? =if blk=b then(w.heap[b]?).map (Go.Sort.onCells f)else w.heap[b]?:=by
 unfold tn
 simp only[Array.getElem?_append,Array.size_modify,hb,u0,Array.getElem?_modify]
theorem tp{G:cg}{s:St}{w:World}(hs:eL G s w){id:Nat}{b0 b1:gD}{r:uW}(hg:bH s.heap id=some b0)(ho:G.own id=some r)(hd:b0≠ .gr)(n:Nat)(f:Array Value->Array Value)(os:Array Obj)
  (hh: ∀o,w.heap[r.block]? =some o->Holds G r b1 (Go.Sort.onCells f o)):
  eL G ⟨eg s.heap id b1,s.bT⟩ (tn w n r.block f os)/\Ext G s w G ⟨eg s.heap id b1,s.bT⟩ (tn w n r.block f os):=by
 have gq:=hs.jn hg ho
 have get: ∀i b,bH (eg s.heap id b1) i=some b->(i=id/\b=b1)\/(i≠id/\bH s.heap i=some b):=by
  intro i b h
  rw[eO]at h
  split at h
  ·cases h;exact .inl ⟨by omega,rfl⟩
  ·exact .inr ⟨by omega,h⟩
 have pI: ∀i b,bH (eg s.heap id b1) i=some b-> ∃b',bH s.heap i=some b':=by
  intro i b h
  rcases get i b h with⟨rfl,_⟩|⟨_,h⟩
  ·exact⟨_,hg⟩
  ·exact⟨_,h⟩
 refine⟨⟨?_,?_,?_,?_,hs.ct,?_⟩,⟨.refl G,rfl,rfl,rfl,?_,?_,λ_ _ _ h=>.inl h,λ_ _ h=>.inl h,?_,eF _,?_,λ_ _ h=>h,Nat.le_add_right _ _⟩⟩
 ·intro b o v hi
  have hb:=hs.sI hi
  have eV:r.block≠b:=by
   rintro rfl
   rw[hs.clear id b0 r o hg ho]at hi;cases hi
  have:=hs.gP b o v hi
  unfold World.cell? at this |-
  rw[nk w n r.block f os hb,dM eV]
  exact this
 ·intro i b h
  rcases get i b h with⟨rfl,rfl⟩|⟨eV,h⟩
  ·obtain⟨o,h1,h2⟩:=hs.at hg ho
   exact .inl ⟨r,_,ho,by rw[nk w n r.block f os gq,dD rfl,h1];rfl,hh o h1⟩
  ·rcases hs.heap i b h with⟨r',o',h1,h2,h3⟩|h1
   ·have aaD:=hs.jn h h1
    have mW:=hs.apart id i b0 b r r' hg h ho h1 (Ne.symm eV)
    exact .inl ⟨r',o',h1,by rw[nk w n r.block f os aaD,dM mW];exact h2,h3⟩
   ·exact .inr h1
 ·intro i j b b' r1 r2 h1 h2 o1 o2 eV
  obtain⟨c1,k1⟩:=pI i b h1
  obtain⟨c2,k2⟩:=pI j b' h2
  exact hs.apart i j c1 c2 r1 r2 k1 k2 o1 o2 eV
 ·intro i b r1 o h1 o1
  obtain⟨c1,k1⟩:=pI i b h1
  exact hs.clear i c1 r1 o k1 o1
 ·intro i b h
  obtain⟨c1,k1⟩:=pI i b h
  exact hs.lt i c1 k1
 ·show w.heap.size<=(w.heap.modify r.block _++os).size
  simp
 ·intro b hb hn
  have eV:r.block≠b:=by
   rintro rfl
   exact hn ⟨id,b0,r,hg,ho,rfl⟩
  rw[nk w n r.block f os hb,dM eV]
 ·intro i b h
  exact .inl (pI i b h)
 ·intro i h
  show bH (eg s.heap id b1) i=some .gr
  rw[eO]
  split
  ·subst_vars
   rw[hg]at h;cases h
   exact absurd rfl hd
  ·exact h
theorem vN(l:List Int):dn (l.map AV.i)=l.map AV.i:=by
 unfold dn
 induction l with
 |nil=>rfl
 |cons x l ih=>simp only[xb,FQ,ih];rfl
theorem ints_at{G:cg}{s:St}{w:World}(hs:eL G s w){id:Nat}{l:List Int}{r:uW}(hg:bH s.heap id=some (.cells 1 (l.map AV.i)))(ho:G.own id=some r):
  ∃cs e,w.heap[r.block]? =some (.cells cs e (0,0))/\cs.size=r.size/\r.cB=1/\r.bR+l.length<=r.size/\ ∀k x,l[k]? =some x->cs[r.bR+k]? =some (.int .i64 x):=by
 obtain⟨o,h1,h2⟩:=hs.at hg ho
 generalize hb:gD.cells 1 (l.map AV.i)=b at h2
 cases h2 with
 |cells cB elems cs e eC ee h0 iM jz eZ hV=>
  injection hb with vf xf
  subst vf;subst xf
  refine⟨cs,e,h1,eC,ee,by simpa using eZ,λk x hk=>?_⟩
  obtain⟨v,h3,h4⟩:=hV k (AV.i x) (by rw[vN,tx,hk];rfl)
  cases h4
  exact h3
 |loop=>cases hb
 |gr=>cases hb
theorem zI{G:cg}{r:uW}{cs:Array Value}{e:TypeId}{l:List Int}(eC:cs.size=r.size)(ee:r.cB=1)(eZ:r.bR+l.length<=r.size)(hV: ∀k x,l[k]? =some x->cs[r.bR+k]? =some (.int .i64 x)):
  Holds G r (.cells 1 (l.map AV.i)) (.cells cs e (0,0)):=
 .cells 1 (l.map AV.i) cs e eC ee (by decide) (λx hx=>by obtain⟨y,_,rfl⟩:=jJ.1 hx;rfl) (λx hx=>by rw[vN]at hx;obtain⟨y,_,rfl⟩:=jJ.1 hx;rfl) (by simpa using eZ)
  (λk x hk=>by
   rw[vN,tx]at hk
   obtain⟨y,h1,rfl⟩:=Hy.1 hk
   exact⟨_,hV k y h1,.int _ _⟩)
theorem zJ{β:Type}[Inhabited β]{f:β->Value}{w:World}{b off:Nat}{cs:Array Value}{e:TypeId}{l:List β}(h:w.heap[b]? =some (.cells cs e (0,0)))(hV: ∀k x,l[k]? =some x->cs[off+k]? =some (f x)):
  Go.Sort.Holds f w b off l.toArray:=by
 intro j hj
 have YP:j<l.length:=by simpa using hj
 have h1:=hV j l[j] (dH YP)
 have h2:l.toArray[j]! =l[j]:=by rw[FC _ j hj];simp
 constructor
 ·unfold World.cell?
  rw[h,h2]
  simpa using h1
 ·unfold World.frozen?
  rw[h]
  simp
theorem E9{off:Nat}{cs:Array Value}{d:List Int}(eZ:off+d.length<=cs.size): ∀k x,d[k]? =some x->(Go.Sort.putCells (Value.int .i64) off d.toArray cs)[off+k]? =some (.int .i64 x):=by
 intro k x hk
 have UO:=(fP.1 hk).1
 unfold Go.Sort.putCells
 rw[Array.getElem?_mapIdx,Ky (by omega),gy,dD ⟨by omega,by simp;omega⟩]
 have:off+k-off=k:=by omega
 rw[this,FC _ k (by simpa using UO)]
 obtain⟨h1,h2⟩:=fP.1 hk
 simp[h2]
theorem N6{G:cg}{s:St}{w:World}(hs:eL G s w){id n:Nat}{v:Value}(h:V G (.ms id 0 n) v)(hn:0<n): ∃r cap,G.own id=some r/\v=.slice (some ⟨r.block,r.bR,none⟩) n cap/\n<=cap/\r.bR+cap*r.cB<=r.size:=by
 generalize hx:AV.ms id 0 n=x at h
 cases h with
 |ms fG bL len cap r addr ho eE eZ gA=>
  injection hx with e1 e2 e3
  subst e1;subst e2;subst e3
  have:=gA (by omega)
  simp only[UY,Dl]at this
  subst this
  exact⟨r,cap,ho,rfl,eE,by simpa using eZ⟩
 |gC fG bL cap bR hc=>
  injection hx with e1 e2 e3
  omega
 |_=>cases hx
end Go.Am
