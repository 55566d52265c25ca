/- slices.Grow at a nil slice: from the shelf's contract: nothing in it, and place behind. -/
import Derived.Test.YtfdnjgoegamonaaGreatDoorAm31
import Derived.Shelf.Spec.SlicesGrow
set_option linter.all false
namespace Go.Am
open Go.RowKit
theorem KN{G:cx}{w:World}(hs:eQ G ⟨[],0⟩ w){cN:Nat}(h0:0<cN):eQ G ⟨[(0,.cells cN [])],1⟩ w/\Ext G ⟨[],0⟩ w G ⟨[(0,.cells cN [])],1⟩ w:=by
 have hn: ∀id,G.own id=none:=λid=>hs.cE id (xC _);refine⟨⟨hs.kS,?_,?_,?_,λid _=>hn id,?_⟩,⟨.refl G,rfl,rfl,rfl,eD _,λ_ _ _=>rfl,λ_ _ _ h=>.inl h,λ_ _ h=>.inl h,λ_ _ _=>.inr (xC _),xC _,?_,λ_ _ h=>h,eD _⟩⟩
 ·intro id blk h;cases id with
  |zero=>cases h;exact .inr ⟨hn 0,cN,h0,rfl⟩
  |succ id=>cases h
 ·intro id fL b b' r r' _ _ h;rw[hn]at h;cases h
 ·intro id b r o _ h;rw[hn]at h;cases h
 ·intro id blk h;cases id with
  |zero=>exact Nat.zero_lt_one
  |succ id=>cases h
 ·intro id h;cases h
theorem zJ{P:Program}{ρ:Go.Shelf.Ren}(L:Go.Proofs.Lays8.n4 P ρ)(i0:TypeInfo)(z:Value)(Y8:P.info? (ρ.t 25)=some i0)(WC:i0.zero=some z)(Rm:0<i0.size)(hzc:z.cells.size=i0.size)(hb:i0.bytes<=4096)
  (n:Int) (h0:0<=n) (h1:n<=4194304):
  dQ P (ρ.f 4) [.sl true [],.i n] ⟨[],0⟩ λy t=>y=.ms 0 0 0/\t=⟨[(0,.cells i0.size [])],1⟩:=by
 intro G w vs hs hv;obtain⟨eG,vP⟩:=hv;rcases vs with⟨_|⟨v,_|⟨v2,_|⟨_,_⟩⟩⟩⟩<;>simp at eG
 obtain⟨cn,cap,rfl,_,hf,LO,_⟩:=(vP 0 _ v rfl rfl).qy;have Wn:cap=0:=hf rfl;subst Wn;have e2:=vP 1 _ v2 rfl rfl;cases e2;obtain⟨k,rfl⟩: ∃k:Nat,n=(k:Int):=⟨n.toNat,by omega⟩;by_cases hk:k=0
 ·subst hk;refine(Go.Proofs.Any8.slices_Grow_room L cn 0 0 0 w (eD _) (by omega) (by omega) (by omega)).mono ?_;rintro e' w' ⟨rfl,rfl⟩;obtain⟨q1,q2⟩:=KN hs Rm;exact⟨_,G,.ms 0 0 0,_,rfl,.ia _ _ _ _ rfl,q1,q2,rfl,rfl⟩
 ·have hbb:k*i0.bytes<=4194304*4096:=Nat.mul_le_mul (by omega) hb;refine(Go.Proofs.Any8.slices_Grow_grow L i0 z Y8 WC Rm cn 0 0 k [] w (eD _) (by omega) (by rw[Cd];omega) (by omega) (by simp) (λ_=>rfl) (by intro a _ j v h;simp at h)).mono ?_;rintro e' w' ⟨rfl,rfl⟩;have hG:0+k<=grownCap w (0+k) 0 (ρ.t 25):=grownCap_ge w _ _ _;generalize grownCap w (0+k) 0 (ρ.t 25)=cc at hG;have s8:(([]:List Value).toArray++Builtin.zeroCells z.cells (0+k-0)++Builtin.zeroCells z.cells (cc-(0+k))).size=cc*i0.size:=by
   simp only[Array.size_append,Builtin.zeroCells,Array.size_map,Array.size_range,hzc,VV,Ih,Cd,Nat.sub_zero,<-vm];congr 1;omega
  generalize(([]:List Value).toArray++Builtin.zeroCells z.cells (0+k-0)++Builtin.zeroCells z.cells (cc-(0+k)))=cs at s8;obtain⟨q1,q2⟩:=hs.drew.put (o:=.cells cs (ρ.t 25)) (blk:=.cells i0.size []) (r:=⟨w.heap.size,0,i0.size,cc*i0.size⟩) rfl
   (.cells _ _ _ _ s8 rfl Rm (λx hx=>by cases hx) (λx hx=>by cases hx) (by simp) λj x hj=>by simp[dB]at hj)
  refine⟨_,_,.ms 0 0 0,_,rfl,?_,q1,(Ext.drew G _ w).trans hs q2,rfl,rfl⟩;exact .ms 0 0 0 cc ⟨w.heap.size,0,i0.size,cc*i0.size⟩ 0 (by simp[cx.put]) (xC _) (by simp) (λ_=>by simp)
section
variable {α:Type}
end
end Go.Am
