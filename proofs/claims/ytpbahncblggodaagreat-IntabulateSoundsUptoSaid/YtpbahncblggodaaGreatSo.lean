/- slices.Sort and slices.Compact at lists of ints: from the shelf's contracts. -/
import Derived.Test.YtpbahncblggodaaGreatSe
import Derived.Shelf.Sort.Plain
import Derived.Shelf.Slices.CompactI
import Derived.Shelf.Slices.In.SortNone
set_option linter.all false
namespace Go.Am
open Go.RowKit
theorem yY(l:List Int):(l.mergeSort λx y=>decide (x<=y)).length=l.length:=List.length_mergeSort l
theorem Gy{P:Program}{ρ:Go.Shelf.Ren}(L:Go.Proofs.Lays.n189 P ρ)(l:List Int)(h0:0<l.length)(h1:l.length<=4194304):
  dJ P (ρ.f 189) [.ms 0 0 l.length] ⟨[(0,.cells 1 (l.map AV.i))],1⟩ λy t=>y=.dW []/\t=⟨[(0,.cells 1 ((l.mergeSort λx y=>decide (x<=y)).map AV.i))],1⟩:=by
 intro G w vs hs hv
 obtain⟨eo,GC⟩:=hv
 rcases vs with⟨_|⟨v,_|⟨_,_⟩⟩⟩<;>simp at eo
 obtain⟨r,cap,ho,rfl,ep,jG⟩:=Ni hs (GC 0 _ v rfl rfl) h0
 obtain⟨cs,e,a1,a2,a3,a4,a5⟩:=ints_at hs (id:=0) (l:=l) rfl ho
 have gh:=hs.iY (id:=0) rfl ho
 refine(Go.Proofs.Any.slices_Sort_int L r.block r.bQ cap l w (yT a1 a5) gh (by omega)).mono ?_
 rintro e' w' ⟨rfl,n,os,rfl⟩
 have Em:=sI hs (id:=0) (b1:=.cells 1 ((l.mergeSort λx y=>decide (x<=y)).map AV.i)) rfl ho (by intro h;cases h) n (Go.Sort.putCells (Value.int .i64) r.bQ (l.mergeSort λx y=>decide (x<=y)).toArray) os (λo QH=>by
  rw[a1]at QH;cases QH
  refine yS (by simp[Go.Sort.putCells,a2]) a3 (by rw[yY];exact a4) (El (by rw[yY,a2];exact a4)))
 exact⟨.tuple #[],G,.dW [],_,rfl,.dW [] #[] rfl (λi x y hx=>by simp at hx),Em.1,Em.2,rfl,rfl⟩
theorem Eo{P:Program}{ρ:Go.Shelf.Ren}(L:Go.Proofs.Lays.n189 P ρ)(l:List Int)(h1:l.length<=4194304):
  dJ P (ρ.f 189) [.ms 0 0 l.length] ⟨[(0,.cells 1 (l.map AV.i))],1⟩ λy t=>y=.dW []/\t=⟨[(0,.cells 1 ((l.mergeSort λx y=>decide (x<=y)).map AV.i))],1⟩:=by
 by_cases h0:0<l.length
 ·exact Gy L l h0 h1
 have zB:l=[]:=List.length_eq_zero_iff.1 (by omega)
 subst zB
 intro G w vs hs hv
 obtain⟨eo,GC⟩:=hv
 rcases vs with⟨_|⟨v,_|⟨_,_⟩⟩⟩<;>simp at eo
 obtain⟨p,cap,rfl⟩: ∃p cap,v=.slice p 0 cap:=by
  have:=GC 0 _ v rfl rfl
  generalize hx:AV.ms 0 0 ([]:List Int).length=x at this
  cases this with
  |ms fq bL len cap r addr ho ep eP gm=>injection hx with e1 e2 e3;subst e3;exact⟨_,_,rfl⟩
  |gn fq bL cap bQ hc=>exact⟨_,_,rfl⟩
  |_=>cases hx
 refine(Go.Proofs.Any.slices_Sort_int_none L p cap w).mono ?_
 rintro e' w' ⟨rfl,rfl⟩
 refine⟨.tuple #[],G,.dW [],_,rfl,.dW [] #[] rfl (λi x y hx=>by simp at hx),hs,.refl _ _ _,rfl,?_⟩
 simp
theorem zU{P:Program}{ρ:Go.Shelf.Ren}(L:Go.Proofs.Lays2.n20 P ρ)(l:List Int)(h0:0<l.length)(h1:l.length<=4194304)(hc:(Go.Lib.compact l).length<=l.length):
  dJ P (ρ.f 20) [.ms 0 0 l.length] ⟨[(0,.cells 1 (l.map AV.i))],1⟩ λy t=>y=.ms 0 0 (Go.Lib.compact l).length/\t=⟨[(0,.cells 1 ((Go.Lib.compact l).map AV.i))],1⟩:=by
 intro G w vs hs hv
 obtain⟨eo,GC⟩:=hv
 rcases vs with⟨_|⟨v,_|⟨_,_⟩⟩⟩<;>simp at eo
 obtain⟨r,cap,ho,rfl,ep,jG⟩:=Ni hs (GC 0 _ v rfl rfl) h0
 obtain⟨cs,e,a1,a2,a3,a4,a5⟩:=ints_at hs (id:=0) (l:=l) rfl ho
 refine(Go.Proofs.Any.slices_Compact_int L r.block r.bQ cap l w (yT a1 a5) (by omega) ep).mono ?_
 rintro e' w' ⟨rfl,n,rfl⟩
 have Em:=sI hs (id:=0) (b1:=.cells 1 ((Go.Lib.compact l).map AV.i)) rfl ho (by intro h;cases h) n (Go.Sort.putCells (Value.int .i64) r.bQ (Go.Lib.compact l++List.replicate (l.length-(Go.Lib.compact l).length) 0).toArray) #[] (λo QH=>by
  rw[a1]at QH;cases QH
  refine yS (by simp[Go.Sort.putCells,a2]) a3 (by omega) (λk x hk=>El (by simp;omega) k x (by rw[nq (fM.1 hk).1];exact hk)))
 have hw:sH w n r.block (Go.Sort.putCells (Value.int .i64) r.bQ (Go.Lib.compact l++List.replicate (l.length-(Go.Lib.compact l).length) 0).toArray) #[]=Go.Sort.putRow (Value.int .i64) (Go.Sort.ahead w n) r.block r.bQ (Go.Lib.compact l++List.replicate (l.length-(Go.Lib.compact l).length) 0).toArray:=by
  unfold sH Go.Sort.putRow Go.Sort.mapBlock Go.Sort.ahead
  simp
 rw[<-hw]
 refine⟨_,G,.ms 0 0 (Go.Lib.compact l).length,_,rfl,?_,Em.1,Em.2,rfl,rfl⟩
 have:=V.ms (G:=G) 0 0 (Go.Lib.compact l).length cap r r.bQ ho (by omega) (by simpa using jG) (λ_=>by simp)
 exact this
end Go.Am
