/- slices.Grow at a nil slice: from the shelf's contract: nothing in it, and place behind. -/
import Derived.Test.YtpbahncblggodaaGreatAm31
import Derived.Shelf.Spec.SlicesGrow
set_option linter.all false
namespace Go.Am
open Go.RowKit
theorem Ks{G:cg}{w:World}(hs:eL G ⟨[],0⟩ w){cB:Nat}(h0:0<cB):eL G ⟨[(0,.cells cB [])],1⟩ w/\Ext G ⟨[],0⟩ w G ⟨[(0,.cells cB [])],1⟩ w:=by
 have hn: ∀id,G.own id=none:=λid=>hs.ct id (AK _)
 refine⟨⟨hs.gP,?_,?_,?_,λid _=>hn id,?_⟩,⟨.refl G,rfl,rfl,rfl,eF _,λ_ _ _=>rfl,λ_ _ _ h=>.inl h,λ_ _ h=>.inl h,λ_ _ _=>.inr (AK _),AK _,?_,λ_ _ h=>h,eF _⟩⟩
 ·intro id blk h
  cases id with
  |zero=>cases h;exact .inr ⟨hn 0,cB,h0,rfl⟩
  |succ id=>cases h
 ·intro id fG b b' r r' _ _ h
  rw[hn]at h;cases h
 ·intro id b r o _ h
  rw[hn]at h;cases h
 ·intro id blk h
  cases id with
  |zero=>exact Nat.zero_lt_one
  |succ id=>cases h
 ·intro id h
  cases h
theorem zN{P:Program}{ρ:Go.Shelf.Ren}(L:Go.Proofs.Lays8.n4 P ρ)(i0:TypeInfo)(z:Value)(hi0:P.info? (ρ.t 25)=some i0)(VI:i0.zero=some z)(QD:0<i0.size)(hzc:z.cells.size=i0.size)(hb:i0.bytes<=4096)
  (n:Int) (h0:0<=n) (h1:n<=4194304):
  dQ P (ρ.f 4) [.sl true [],.i n] ⟨[],0⟩ λy t=>y=.ms 0 0 0/\t=⟨[(0,.cells i0.size [])],1⟩:=by
 intro G w vs hs hv
 obtain⟨eC,Hu⟩:=hv
 rcases vs with⟨_|⟨v,_|⟨v2,_|⟨_,_⟩⟩⟩⟩<;>simp at eC
 obtain⟨bR,cap,rfl,_,hf,Lg,_⟩:=(Hu 0 _ v rfl rfl).qf
 have Vs:cap=0:=hf rfl
 subst Vs
 have e2:=Hu 1 _ v2 rfl rfl
 cases e2
 obtain⟨k,rfl⟩: ∃k:Nat,n=(k:Int):=⟨n.toNat,by omega⟩
 by_cases hk:k=0
 ·subst hk
  refine(Go.Proofs.Any8.slices_Grow_room L bR 0 0 0 w (eF _) (by omega) (by omega) (by omega)).mono ?_
  rintro e' w' ⟨rfl,rfl⟩
  obtain⟨q1,q2⟩:=Ks hs QD
  exact⟨_,G,.ms 0 0 0,_,rfl,.gC _ _ _ _ rfl,q1,q2,rfl,rfl⟩
 ·have hbb:k*i0.bytes<=4194304*4096:=Nat.mul_le_mul (by omega) hb
  refine(Go.Proofs.Any8.slices_Grow_grow L i0 z hi0 VI QD bR 0 0 k [] w (eF _) (by omega) (by rw[BU];omega) (by omega) (by simp) (λ_=>rfl) (by intro a _ j v h;simp at h)).mono ?_
  rintro e' w' ⟨rfl,rfl⟩
  have hG:0+k<=grownCap w (0+k) 0 (ρ.t 25):=grownCap_ge w _ _ _
  generalize grownCap w (0+k) 0 (ρ.t 25)=cc at hG
  have tK:(([]:List Value).toArray++Builtin.zeroCells z.cells (0+k-0)++Builtin.zeroCells z.cells (cc-(0+k))).size=cc*i0.size:=by
   simp only[Array.size_append,Builtin.zeroCells,Array.size_map,Array.size_range,hzc,U0,Kz,BU,Nat.sub_zero,<-uV]
   congr 1;omega
  generalize(([]:List Value).toArray++Builtin.zeroCells z.cells (0+k-0)++Builtin.zeroCells z.cells (cc-(0+k)))=cs at tK
  obtain⟨q1,q2⟩:=hs.drew.put (o:=.cells cs (ρ.t 25)) (blk:=.cells i0.size []) (r:=⟨w.heap.size,0,i0.size,cc*i0.size⟩) rfl
   (.cells _ _ _ _ tK rfl QD (λx hx=>by cases hx) (λx hx=>by cases hx) (by simp) λj x hj=>by simp[dn]at hj)
  refine⟨_,_,.ms 0 0 0,_,rfl,?_,q1,(Ext.drew G _ w).trans hs q2,rfl,rfl⟩
  exact .ms 0 0 0 cc ⟨w.heap.size,0,i0.size,cc*i0.size⟩ 0 (by simp[cg.put]) (AK _) (by simp) (λ_=>by simp)
section
variable {α:Type}
end
end Go.Am
