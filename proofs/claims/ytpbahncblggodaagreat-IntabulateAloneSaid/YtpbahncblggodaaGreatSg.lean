/-
  slices.Grow at a nil slice: from the shelf's contract: nothing in it, and place behind.
  Own work. No Go text.
-/
import Derived.Test.YtpbahncblggodaaGreatAm31
import Derived.Shelf.Spec.SlicesGrow
set_option linter.all false
namespace Go.Am
open Go.RowKit
theorem nil_block{G:Ghost}{w:World}(hs:Sim G ⟨[],0⟩ w){esz:Nat}(h0:0<esz):Sim G ⟨[(0,.cells esz [])],1⟩ w/\Ext G ⟨[],0⟩ w G ⟨[(0,.cells esz [])],1⟩ w:=by
 have hn: ∀id,G.own id=none:=λid=>hs.fresh id (Nat.zero_le _)
 refine⟨⟨hs.imm,?_,?_,?_,λid _=>hn id,?_⟩,⟨.refl G,rfl,rfl,rfl,Nat.le_refl _,λ_ _ _=>rfl,λ_ _ _ h=>.inl h,λ_ _ h=>.inl h,λ_ _ _=>.inr (Nat.zero_le _),Nat.zero_le _,?_,λ_ _ h=>h,Nat.le_refl _⟩⟩
 ·intro id blk h
  cases id with
  |zero=>cases h;exact .inr ⟨hn 0,esz,h0,rfl⟩
  |succ id=>cases h
 ·intro id id' b b' r r' _ _ h
  rw[hn]at h;cases h
 ·intro id b r o _ h
  rw[hn]at h;cases h
 ·intro id blk h
  cases id with
  |zero=>exact Nat.zero_lt_one
  |succ id=>cases h
 ·intro id h
  cases h
theorem grow_calls{P:Program}{ρ:Go.Shelf.Ren}(L:Go.Proofs.Lays8.n4 P ρ)(i0:TypeInfo)(z:Value)(hi0:P.info? (ρ.t 25)=some i0)(hz0:i0.zero=some z)(hs0:0<i0.size)(hzc:z.cells.size=i0.size)(hb:i0.bytes<=4096)
  (n:Int) (h0:0<=n) (h1:n<=4194304):
  ACalls P (ρ.f 4) [.sl true [],.i n] ⟨[],0⟩ λy t=>y=.ms 0 0 0/\t=⟨[(0,.cells i0.size [])],1⟩:=by
 intro G w vs hs hv
 obtain⟨hsz,hvv⟩:=hv
 rcases vs with⟨_|⟨v,_|⟨v2,_|⟨_,_⟩⟩⟩⟩<;>simp at hsz
 obtain⟨base,cap,rfl,_,hf,hbn,_⟩:=(hvv 0 _ v rfl rfl).sl_inv
 have hc0:cap=0:=hf rfl
 subst hc0
 have e2:=hvv 1 _ v2 rfl rfl
 cases e2
 obtain⟨k,rfl⟩: ∃k:Nat,n=(k:Int):=⟨n.toNat,by omega⟩
 by_cases hk:k=0
 ·subst hk
  refine(Go.Proofs.Any8.slices_Grow_room L base 0 0 0 w (Nat.le_refl _) (by omega) (by omega) (by omega)).mono ?_
  rintro e' w' ⟨rfl,rfl⟩
  obtain⟨q1,q2⟩:=nil_block hs hs0
  exact⟨_,G,.ms 0 0 0,_,rfl,.msnil _ _ _ _ rfl,q1,q2,rfl,rfl⟩
 ·have hbb:k*i0.bytes<=4194304*4096:=Nat.mul_le_mul (by omega) hb
  refine(Go.Proofs.Any8.slices_Grow_grow L i0 z hi0 hz0 hs0 base 0 0 k [] w (Nat.le_refl _) (by omega) (by rw[Nat.zero_add];omega) (by omega) (by simp) (λ_=>rfl) (by intro a _ j v h;simp at h)).mono ?_
  rintro e' w' ⟨rfl,rfl⟩
  have hG:0+k<=grownCap w (0+k) 0 (ρ.t 25):=grownCap_ge w _ _ _
  generalize grownCap w (0+k) 0 (ρ.t 25)=cc at hG
  have hcs:(([]:List Value).toArray++Builtin.zeroCells z.cells (0+k-0)++Builtin.zeroCells z.cells (cc-(0+k))).size=cc*i0.size:=by
   simp only[Array.size_append,Builtin.zeroCells,Array.size_map,Array.size_range,hzc,List.size_toArray,List.length_nil,Nat.zero_add,Nat.sub_zero,<-Nat.add_mul]
   congr 1;omega
  generalize(([]:List Value).toArray++Builtin.zeroCells z.cells (0+k-0)++Builtin.zeroCells z.cells (cc-(0+k)))=cs at hcs
  obtain⟨q1,q2⟩:=hs.drew.put (o:=.cells cs (ρ.t 25)) (blk:=.cells i0.size []) (r:=⟨w.heap.size,0,i0.size,cc*i0.size⟩) rfl
   (.cells _ _ _ _ hcs rfl hs0 (λx hx=>by cases hx) (λx hx=>by cases hx) (by simp) λj x hj=>by simp[flat]at hj)
  refine⟨_,_,.ms 0 0 0,_,rfl,?_,q1,(Ext.drew G _ w).trans hs q2,rfl,rfl⟩
  exact .ms 0 0 0 cc ⟨w.heap.size,0,i0.size,cc*i0.size⟩ 0 (by simp[Ghost.put]) (Nat.zero_le _) (by simp) (λ_=>by simp)
section
variable {α:Type}
end
end Go.Am
