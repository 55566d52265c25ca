/- slices.Sort and slices.Compact at lists of ints: from the shelf's contracts. -/
import Derived.Test.YtgpciecmgoppiaaGreatSe
import Derived.Shelf.Sort.Plain
import Derived.Shelf.Slices.CompactI
import Derived.Shelf.Slices.In.SortNone
set_option linter.all false
namespace Go.Am
open Go.RowKit
theorem HC{P:Program}{ρ:Go.Shelf.Ren}(L:Go.Proofs.Lays.n189 P ρ)(l:List Int)(h0:0<l.length)(h1:l.length<=4194304):
  dw P (ρ.f 189) [.ms 0 0 l.length] ⟨[(0,.cells 1 (l.map AV.i))],1⟩ λy t=>y=.dS []/\t=⟨[(0,.cells 1 ((l.mergeSort λx y=>decide (x<=y)).map AV.i))],1⟩:=by
 intro G w vs hs hv;obtain⟨eB,Jl⟩:=hv;rcases vs with⟨_|⟨v,_|⟨_,_⟩⟩⟩<;>simp at eB
 obtain⟨r,cap,ho,rfl,eR,jC⟩:=Ol hs (Jl 0 _ v rfl rfl) h0;obtain⟨cs,e,a1,a2,a3,a4,a5⟩:=ints_at hs (id:=0) (l:=l) rfl ho;have kc:=hs.jE (id:=0) rfl ho;refine(Go.Proofs.Any.slices_Sort_int L r.block r.bG cap l w (zy a1 a5) kc (by omega)).mono ?_;rintro e' w' ⟨rfl,n,os,rfl⟩;have ET:=sV hs (id:=0) (b1:=.cells 1 ((l.mergeSort λx y=>decide (x<=y)).map AV.i)) rfl ho (by grind) n (Go.Sort.putCells (Value.int .i64) r.bG (l.mergeSort λx y=>decide (x<=y)).toArray) os (λo SN=>by
  rw[a1]at SN;cases SN;refine zx (by simp[Go.Sort.putCells,a2]) a3 (by simp_all) (ES (by simp_all)))
 exact⟨.tuple #[],G,.dS [],_,rfl,.dS [] #[] rfl (λi x y hx=>by simp at hx),ET.1,ET.2,rfl,rfl⟩
theorem EU{P:Program}{ρ:Go.Shelf.Ren}(L:Go.Proofs.Lays.n189 P ρ)(l:List Int)(h1:l.length<=4194304):
  dw P (ρ.f 189) [.ms 0 0 l.length] ⟨[(0,.cells 1 (l.map AV.i))],1⟩ λy t=>y=.dS []/\t=⟨[(0,.cells 1 ((l.mergeSort λx y=>decide (x<=y)).map AV.i))],1⟩:=by
 by_cases h0:0<l.length
 ·grind [HC]
 have LM:l=[]:=YM.1 (by omega);subst LM;intro G w vs hs hv;obtain⟨eB,Jl⟩:=hv;rcases vs with⟨_|⟨v,_|⟨_,_⟩⟩⟩<;>simp at eB
 obtain⟨p,cap,rfl⟩: ∃p cap,v=.slice p 0 cap:=by
  have:=Jl 0 _ v rfl rfl;generalize hx:AV.ms 0 0 ([]:List Int).length=x at this;cases this with
  |ms fq bq len cap r addr ho eR ga iK=>grind
  |gO fq bq cap bG hc=>grind
  |_=>cases hx
 refine(Go.Proofs.Any.slices_Sort_int_none L p cap w).mono ?_;rintro e' w' ⟨rfl,rfl⟩;refine⟨.tuple #[],G,.dS [],_,rfl,.dS [] #[] rfl (λi x y hx=>by simp at hx),hs,.refl _ _ _,rfl,?_⟩;simp
theorem AN{P:Program}{ρ:Go.Shelf.Ren}(L:Go.Proofs.Lays2.n20 P ρ)(l:List Int)(h0:0<l.length)(h1:l.length<=4194304)(hc:(Go.Lib.compact l).length<=l.length):
  dw P (ρ.f 20) [.ms 0 0 l.length] ⟨[(0,.cells 1 (l.map AV.i))],1⟩ λy t=>y=.ms 0 0 (Go.Lib.compact l).length/\t=⟨[(0,.cells 1 ((Go.Lib.compact l).map AV.i))],1⟩:=by
 intro G w vs hs hv;obtain⟨eB,Jl⟩:=hv;rcases vs with⟨_|⟨v,_|⟨_,_⟩⟩⟩<;>simp at eB
 obtain⟨r,cap,ho,rfl,eR,jC⟩:=Ol hs (Jl 0 _ v rfl rfl) h0;obtain⟨cs,e,a1,a2,a3,a4,a5⟩:=ints_at hs (id:=0) (l:=l) rfl ho;refine(Go.Proofs.Any.slices_Compact_int L r.block r.bG cap l w (zy a1 a5) (by omega) eR).mono ?_;rintro e' w' ⟨rfl,n,rfl⟩;have ET:=sV hs (id:=0) (b1:=.cells 1 ((Go.Lib.compact l).map AV.i)) rfl ho (by grind) n (Go.Sort.putCells (Value.int .i64) r.bG (Go.Lib.compact l++List.replicate (l.length-(Go.Lib.compact l).length) 0).toArray) #[] (λo SN=>by
  rw[a1]at SN;cases SN;refine zx (by simp[Go.Sort.putCells,a2]) a3 (by omega) (λk x hk=>ES (by simp;omega) k x (by grind)))
 have hw:qK w n r.block (Go.Sort.putCells (Value.int .i64) r.bG (Go.Lib.compact l++List.replicate (l.length-(Go.Lib.compact l).length) 0).toArray) #[]=Go.Sort.putRow (Value.int .i64) (Go.Sort.ahead w n) r.block r.bG (Go.Lib.compact l++List.replicate (l.length-(Go.Lib.compact l).length) 0).toArray:=by
  rfl
 rw[<-hw];refine⟨_,G,.ms 0 0 (Go.Lib.compact l).length,_,rfl,?_,ET.1,ET.2,rfl,rfl⟩;have:=V.ms (G:=G) 0 0 (Go.Lib.compact l).length cap r r.bG ho (by omega) (by grind) (λ_=>by simp);exact this
end Go.Am
