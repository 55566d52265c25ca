/-
  A block made anew by a sort: what a block of ints holds, and where a slice lies.
  Own work. No Go text.
-/
import Derived.Test.YtpbahncblggodaaGreatAm31
import Derived.Sort.Row
set_option linter.all false
namespace Go.Am
open Go.RowKit
def remade(w:World)(n blk:Nat)(f:Array Value->Array Value)(os:Array Obj):World:={w with heap:=w.heap.modify blk (Go.Sort.onCells f)++os,drawn:=w.drawn+n}
theorem heap_remade(w:World)(n blk:Nat)(f:Array Value->Array Value)(os:Array Obj){b:Nat}(hb:b<w.heap.size):
  (remade w n blk f os).heap[b]? =if blk=b then(w.heap[b]?).map (Go.Sort.onCells f)else w.heap[b]?:=by
 unfold remade
 simp only[Array.getElem?_append,Array.size_modify,hb,if_true,Array.getElem?_modify]
theorem remade_sim{G:Ghost}{s:St}{w:World}(hs:Sim G s w){id:Nat}{b0 b1:Blk}{r:Reg}(hg:eget s.heap id=some b0)(ho:G.own id=some r)(hd:b0≠ .dfr)(n:Nat)(f:Array Value->Array Value)(os:Array Obj)
  (hh: ∀o,w.heap[r.block]? =some o->Holds G r b1 (Go.Sort.onCells f o)):
  Sim G ⟨eset s.heap id b1,s.cnt⟩ (remade w n r.block f os)/\Ext G s w G ⟨eset s.heap id b1,s.cnt⟩ (remade w n r.block f os):=by
 have hlt:=hs.own_lt hg ho
 have get: ∀i b,eget (eset s.heap id b1) i=some b->(i=id/\b=b1)\/(i≠id/\eget s.heap i=some b):=by
  intro i b h
  rw[get_set]at h
  split at h
  ·cases h;exact .inl ⟨by omega,rfl⟩
  ·exact .inr ⟨by omega,h⟩
 have old: ∀i b,eget (eset s.heap id b1) i=some b-> ∃b',eget s.heap i=some b':=by
  intro i b h
  rcases get i b h with⟨rfl,_⟩|⟨_,h⟩
  ·exact⟨_,hg⟩
  ·exact⟨_,h⟩
 refine⟨⟨?_,?_,?_,?_,hs.fresh,?_⟩,⟨.refl G,rfl,rfl,rfl,?_,?_,λ_ _ _ h=>.inl h,λ_ _ h=>.inl h,?_,Nat.le_refl _,?_,λ_ _ h=>h,Nat.le_add_right _ _⟩⟩
 ·intro b o v hi
  have hb:=hs.imm_lt hi
  have hne:r.block≠b:=by
   rintro rfl
   rw[hs.clear id b0 r o hg ho]at hi;cases hi
  have:=hs.imm b o v hi
  unfold World.cell? at this ⊢
  rw[heap_remade w n r.block f os hb,if_neg hne]
  exact this
 ·intro i b h
  rcases get i b h with⟨rfl,rfl⟩|⟨hne,h⟩
  ·obtain⟨o,h1,h2⟩:=hs.at hg ho
   exact .inl ⟨r,_,ho,by rw[heap_remade w n r.block f os hlt,if_pos rfl,h1];rfl,hh o h1⟩
  ·rcases hs.heap i b h with⟨r',o',h1,h2,h3⟩|h1
   ·have hlt':=hs.own_lt h h1
    have hne':=hs.apart id i b0 b r r' hg h ho h1 (Ne.symm hne)
    exact .inl ⟨r',o',h1,by rw[heap_remade w n r.block f os hlt',if_neg hne'];exact h2,h3⟩
   ·exact .inr h1
 ·intro i j b b' r1 r2 h1 h2 o1 o2 hne
  obtain⟨c1,k1⟩:=old i b h1
  obtain⟨c2,k2⟩:=old j b' h2
  exact hs.apart i j c1 c2 r1 r2 k1 k2 o1 o2 hne
 ·intro i b r1 o h1 o1
  obtain⟨c1,k1⟩:=old i b h1
  exact hs.clear i c1 r1 o k1 o1
 ·intro i b h
  obtain⟨c1,k1⟩:=old i b h
  exact hs.lt i c1 k1
 ·show w.heap.size<=(w.heap.modify r.block _++os).size
  simp
 ·intro b hb hn
  have hne:r.block≠b:=by
   rintro rfl
   exact hn ⟨id,b0,r,hg,ho,rfl⟩
  rw[heap_remade w n r.block f os hb,if_neg hne]
 ·intro i b h
  exact .inl (old i b h)
 ·intro i h
  show eget (eset s.heap id b1) i=some .dfr
  rw[get_set]
  split
  ·subst_vars
   rw[hg]at h;cases h
   exact absurd rfl hd
  ·exact h
theorem flat_ints(l:List Int):flat (l.map AV.i)=l.map AV.i:=by
 unfold flat
 induction l with
 |nil=>rfl
 |cons x l ih=>simp only[List.map_cons,List.flatMap_cons,ih];rfl
theorem ints_at{G:Ghost}{s:St}{w:World}(hs:Sim G s w){id:Nat}{l:List Int}{r:Reg}(hg:eget s.heap id=some (.cells 1 (l.map AV.i)))(ho:G.own id=some r):
  ∃cs e,w.heap[r.block]? =some (.cells cs e (0,0))/\cs.size=r.size/\r.esz=1/\r.base+l.length<=r.size/\ ∀k x,l[k]? =some x->cs[r.base+k]? =some (.int .i64 x):=by
 obtain⟨o,h1,h2⟩:=hs.at hg ho
 generalize hb:Blk.cells 1 (l.map AV.i)=b at h2
 cases h2 with
 |cells esz elems cs e hsz hesz h0 hel hsc hin hV=>
  injection hb with hb1 hb2
  subst hb1;subst hb2
  refine⟨cs,e,h1,hsz,hesz,by simpa using hin,λk x hk=>?_⟩
  obtain⟨v,h3,h4⟩:=hV k (AV.i x) (by rw[flat_ints,List.getElem?_map,hk];rfl)
  cases h4
  exact h3
 |loop=>cases hb
 |dfr=>cases hb
theorem holds_ints{G:Ghost}{r:Reg}{cs:Array Value}{e:TypeId}{l:List Int}(hsz:cs.size=r.size)(hesz:r.esz=1)(hin:r.base+l.length<=r.size)(hV: ∀k x,l[k]? =some x->cs[r.base+k]? =some (.int .i64 x)):
  Holds G r (.cells 1 (l.map AV.i)) (.cells cs e (0,0)):=
 .cells 1 (l.map AV.i) cs e hsz hesz (by decide) (λx hx=>by obtain⟨y,_,rfl⟩:=List.mem_map.1 hx;rfl) (λx hx=>by rw[flat_ints]at hx;obtain⟨y,_,rfl⟩:=List.mem_map.1 hx;rfl) (by simpa using hin)
  (λk x hk=>by
   rw[flat_ints,List.getElem?_map]at hk
   obtain⟨y,h1,rfl⟩:=Option.map_eq_some_iff.1 hk
   exact⟨_,hV k y h1,.int _ _⟩)
theorem row_ints{w:World}{b off:Nat}{cs:Array Value}{e:TypeId}{l:List Int}(h:w.heap[b]? =some (.cells cs e (0,0)))(hV: ∀k x,l[k]? =some x->cs[off+k]? =some (.int .i64 x)):
  Go.Sort.Holds (Value.int .i64) w b off l.toArray:=by
 intro j hj
 have hj':j<l.length:=by simpa using hj
 have h1:=hV j l[j] (List.getElem?_eq_getElem hj')
 have h2:l.toArray[j]! =l[j]:=by rw[getElem!_pos _ j hj];simp
 constructor
 ·unfold World.cell?
  rw[h,h2]
  simpa using h1
 ·unfold World.frozen?
  rw[h]
  simp
theorem put_ints{off:Nat}{cs:Array Value}{d:List Int}(hin:off+d.length<=cs.size): ∀k x,d[k]? =some x->(Go.Sort.putCells (Value.int .i64) off d.toArray cs)[off+k]? =some (.int .i64 x):=by
 intro k x hk
 have hkl:=(List.getElem?_eq_some_iff.1 hk).1
 unfold Go.Sort.putCells
 rw[Array.getElem?_mapIdx,Array.getElem?_eq_getElem (by omega),Option.map_some,if_pos ⟨by omega,by simp;omega⟩]
 have:off+k-off=k:=by omega
 rw[this,getElem!_pos _ k (by simpa using hkl)]
 obtain⟨h1,h2⟩:=List.getElem?_eq_some_iff.1 hk
 simp[h2]
theorem ms_at{G:Ghost}{s:St}{w:World}(hs:Sim G s w){id n:Nat}{v:Value}(h:V G (.ms id 0 n) v)(hn:0<n): ∃r cap,G.own id=some r/\v=.slice (some ⟨r.block,r.base,none⟩) n cap/\n<=cap/\r.base+cap*r.esz<=r.size:=by
 generalize hx:AV.ms id 0 n=x at h
 cases h with
 |ms id' start len cap r addr ho hle hin haddr=>
  injection hx with e1 e2 e3
  subst e1;subst e2;subst e3
  have:=haddr (by omega)
  simp only[Nat.zero_mul,Nat.add_zero]at this
  subst this
  exact⟨r,cap,ho,rfl,hle,by simpa using hin⟩
 |msnil id' start cap base hc=>
  injection hx with e1 e2 e3
  omega
 |_=>cases hx
end Go.Am
