/- slices.Sort and slices.Compact at lists of ints: from the shelf's contracts. -/
import Derived.Test.YtfdnjgoegamonaaGreatDoorSe
import Derived.Shelf.Sort.Plain
import Derived.Shelf.Slices.CompactI
import Derived.Shelf.Slices.In.SortNone
set_option linter.all false
namespace Go.Am
open Go.RowKit
theorem zM(l:List Int):(l.mergeSort λx y=>decide (x<=y)).length=l.length:=List.length_mergeSort l
theorem Hz{P:Program}{ρ:Go.Shelf.Ren}(L:Go.Proofs.Lays.n189 P ρ)(l:List Int)(h0:0<l.length)(h1:l.length<=4194304):
  dQ P (ρ.f 189) [.ms 0 0 l.length] ⟨[(0,.cells 1 (l.map AV.i))],1⟩ λy t=>y=.eC []/\t=⟨[(0,.cells 1 ((l.mergeSort λx y=>decide (x<=y)).map AV.i))],1⟩:=by
 intro G w vs hs hv;obtain⟨eG,vP⟩:=hv;rcases vs with⟨_|⟨v,_|⟨_,_⟩⟩⟩<;>simp at eG
 obtain⟨r,cap,ho,rfl,eP,ko⟩:=NO hs (vP 0 _ v rfl rfl) h0;obtain⟨cs,e,a1,a2,a3,a4,a5⟩:=ints_at hs (id:=0) (l:=l) rfl ho;have gl:=hs.jy (id:=0) rfl ho;refine(Go.Proofs.Any.slices_Sort_int L r.block r.cn cap l w (zL a1 a5) gl (by omega)).mono ?_;rintro e' w' ⟨rfl,n,os,rfl⟩;have Fe:=tv hs (id:=0) (b1:=.cells 1 ((l.mergeSort λx y=>decide (x<=y)).map AV.i)) rfl ho (by intro h;cases h) n (Go.Sort.putCells (Value.int .i64) r.cn (l.mergeSort λx y=>decide (x<=y)).toArray) os (λo R7=>by
  rw[a1]at R7;cases R7;refine zK (by simp[Go.Sort.putCells,a2]) a3 (by rw[zM];exact a4) (Fc (by rw[zM,a2];exact a4)))
 exact⟨.tuple #[],G,.eC [],_,rfl,.eC [] #[] rfl (λi x y hx=>by simp at hx),Fe.1,Fe.2,rfl,rfl⟩
theorem Ff{P:Program}{ρ:Go.Shelf.Ren}(L:Go.Proofs.Lays.n189 P ρ)(l:List Int)(h1:l.length<=4194304):
  dQ P (ρ.f 189) [.ms 0 0 l.length] ⟨[(0,.cells 1 (l.map AV.i))],1⟩ λy t=>y=.eC []/\t=⟨[(0,.cells 1 ((l.mergeSort λx y=>decide (x<=y)).map AV.i))],1⟩:=by
 by_cases h0:0<l.length
 ·exact Hz L l h0 h1
 have PS:l=[]:=ZE.1 (by omega);subst PS;intro G w vs hs hv;obtain⟨eG,vP⟩:=hv;rcases vs with⟨_|⟨v,_|⟨_,_⟩⟩⟩<;>simp at eG
 obtain⟨p,cap,rfl⟩: ∃p cap,v=.slice p 0 cap:=by
  have:=vP 0 _ v rfl rfl;generalize hx:AV.ms 0 0 ([]:List Int).length=x at this;cases this with
  |ms fL b9 len cap r addr ho eP fB gY=>injection hx with e1 e2 e3;subst e3;exact⟨_,_,rfl⟩
  |ia fL b9 cap cn hc=>exact⟨_,_,rfl⟩
  |_=>cases hx
 refine(Go.Proofs.Any.slices_Sort_int_none L p cap w).mono ?_;rintro e' w' ⟨rfl,rfl⟩;refine⟨.tuple #[],G,.eC [],_,rfl,.eC [] #[] rfl (λi x y hx=>by simp at hx),hs,.refl _ _ _,rfl,?_⟩;simp
theorem Bg{P:Program}{ρ:Go.Shelf.Ren}(L:Go.Proofs.Lays2.n20 P ρ)(l:List Int)(h0:0<l.length)(h1:l.length<=4194304)(hc:(Go.Lib.compact l).length<=l.length):
  dQ P (ρ.f 20) [.ms 0 0 l.length] ⟨[(0,.cells 1 (l.map AV.i))],1⟩ λy t=>y=.ms 0 0 (Go.Lib.compact l).length/\t=⟨[(0,.cells 1 ((Go.Lib.compact l).map AV.i))],1⟩:=by
 intro G w vs hs hv;obtain⟨eG,vP⟩:=hv;rcases vs with⟨_|⟨v,_|⟨_,_⟩⟩⟩<;>simp at eG
 obtain⟨r,cap,ho,rfl,eP,ko⟩:=NO hs (vP 0 _ v rfl rfl) h0;obtain⟨cs,e,a1,a2,a3,a4,a5⟩:=ints_at hs (id:=0) (l:=l) rfl ho;refine(Go.Proofs.Any.slices_Compact_int L r.block r.cn cap l w (zL a1 a5) (by omega) eP).mono ?_;rintro e' w' ⟨rfl,n,rfl⟩;have Fe:=tv hs (id:=0) (b1:=.cells 1 ((Go.Lib.compact l).map AV.i)) rfl ho (by intro h;cases h) n (Go.Sort.putCells (Value.int .i64) r.cn (Go.Lib.compact l++List.replicate (l.length-(Go.Lib.compact l).length) 0).toArray) #[] (λo R7=>by
  rw[a1]at R7;cases R7;refine zK (by simp[Go.Sort.putCells,a2]) a3 (by omega) (λk x hk=>Fc (by simp;omega) k x (by rw[nD (fT.1 hk).1];exact hk)))
 have hw:pV w n r.block (Go.Sort.putCells (Value.int .i64) r.cn (Go.Lib.compact l++List.replicate (l.length-(Go.Lib.compact l).length) 0).toArray) #[]=Go.Sort.putRow (Value.int .i64) (Go.Sort.ahead w n) r.block r.cn (Go.Lib.compact l++List.replicate (l.length-(Go.Lib.compact l).length) 0).toArray:=by
  unfold pV Go.Sort.putRow Go.Sort.mapBlock Go.Sort.ahead;simp
 rw[<-hw];refine⟨_,G,.ms 0 0 (Go.Lib.compact l).length,_,rfl,?_,Fe.1,Fe.2,rfl,rfl⟩;have:=V.ms (G:=G) 0 0 (Go.Lib.compact l).length cap r r.cn ho (by omega) (by simpa using ko) (λ_=>by simp);exact this
end Go.Am
