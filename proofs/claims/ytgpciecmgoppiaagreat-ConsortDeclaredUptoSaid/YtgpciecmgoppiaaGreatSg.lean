/- slices.Grow at a nil slice: from the shelf's contract: nothing in it, and place behind. -/
import Derived.Test.YtgpciecmgoppiaaGreatAm31
import Derived.Shelf.Spec.SlicesGrow
set_option linter.all false
namespace Go.Am
open Go.RowKit
theorem Le{G:bS}{w:World}(hs:eG G ⟨[],0⟩ w){cq:Nat}(h0:0<cq):eG G ⟨[(0,.cells cq [])],1⟩ w/\Ext G ⟨[],0⟩ w G ⟨[(0,.cells cq [])],1⟩ w:=by
 have hn: ∀id,G.own id=none:=λid=>hs.cj id (Ds _);refine⟨⟨hs.lW,?_,?_,?_,λid _=>hn id,?_⟩,⟨.refl G,rfl,rfl,rfl,fw _,λ_ _ _=>rfl,λ_ _ _ h=>.inl h,λ_ _ h=>.inl h,λ_ _ _=>.inr (Ds _),Ds _,?_,λ_ _ h=>h,fw _⟩⟩
 ·intro id blk h;cases id with
  |zero=>cases h;grind
  |succ id=>cases h
 ·grind
 ·grind
 ·intro id blk h;cases id with
  |zero=>grind
  |succ id=>cases h
 ·intro id h;cases h
theorem zw{P:Program}{ρ:Go.Shelf.Ren}(L:Go.Proofs.Lays8.n4 P ρ)(i0:TypeInfo)(z:Value)(hi0:P.info? (ρ.t 25)=some i0)(VV:i0.zero=some z)(PF:0<i0.size)(hzc:z.cells.size=i0.size)(hb:i0.bytes<=4096)
  (n:Int) (h0:0<=n) (h1:n<=4194304):
  dw P (ρ.f 4) [.sl true [],.i n] ⟨[],0⟩ λy t=>y=.ms 0 0 0/\t=⟨[(0,.cells i0.size [])],1⟩:=by
 intro G w vs hs hv;obtain⟨eB,Jl⟩:=hv;rcases vs with⟨_|⟨v,_|⟨v2,_|⟨_,_⟩⟩⟩⟩<;>simp at eB
 obtain⟨bG,cap,rfl,_,hf,Qd,_⟩:=(Jl 0 _ v rfl rfl).oY;have WL:cap=0:=hf rfl;subst WL;have e2:=Jl 1 _ v2 rfl rfl;cases e2;obtain⟨k,rfl⟩: ∃k:Nat,n=(k:Int):=⟨n.toNat,by omega⟩;by_cases hk:k=0
 ·subst hk;refine(Go.Proofs.Any8.slices_Grow_room L bG 0 0 0 w (fw _) (by omega) (by omega) (by omega)).mono ?_;rintro e' w' ⟨rfl,rfl⟩;obtain⟨q1,q2⟩:=Le hs PF;exact⟨_,G,.ms 0 0 0,_,rfl,.gO _ _ _ _ rfl,q1,q2,rfl,rfl⟩
 ·have hbb:k*i0.bytes<=4194304*4096:=Nat.mul_le_mul (by omega) hb;refine(Go.Proofs.Any8.slices_Grow_grow L i0 z hi0 VV PF bG 0 0 k [] w (fw _) (by omega) (by grind) (by omega) (by simp) (λ_=>rfl) (by grind)).mono ?_;rintro e' w' ⟨rfl,rfl⟩;have hG:0+k<=grownCap w (0+k) 0 (ρ.t 25):=grownCap_ge w _ _ _;generalize grownCap w (0+k) 0 (ρ.t 25)=cc at hG;have vr:(([]:List Value).toArray++Builtin.zeroCells z.cells (0+k-0)++Builtin.zeroCells z.cells (cc-(0+k))).size=cc*i0.size:=by
   simp only[Array.size_append,Builtin.zeroCells,Array.size_map,Array.size_range,hzc,List.size_toArray,LY,J0,Nat.sub_zero,<-F3]
   grind
  generalize(([]:List Value).toArray++Builtin.zeroCells z.cells (0+k-0)++Builtin.zeroCells z.cells (cc-(0+k)))=cs at vr;obtain⟨q1,q2⟩:=hs.drew.put (o:=.cells cs (ρ.t 25)) (blk:=.cells i0.size []) (r:=⟨w.heap.size,0,i0.size,cc*i0.size⟩) rfl
   (.cells _ _ _ _ vr rfl PF (λx hx=>by cases hx) (λx hx=>by cases hx) (by simp) λj x hj=>by simp[de]at hj)
  refine⟨_,_,.ms 0 0 0,_,rfl,?_,q1,(Ext.drew G _ w).trans hs q2,rfl,rfl⟩;exact .ms 0 0 0 cc ⟨w.heap.size,0,i0.size,cc*i0.size⟩ 0 (by rfl) (Ds _) (by simp) (λ_=>by simp)
section
variable {α:Type}
end
end Go.Am
