/-
  slices.Sort and slices.Compact at lists of ints: from the shelf's contracts.
  Own work. No Go text.
-/
import Derived.Test.YtpbahncblggodaaGreatSe
import Derived.Shelf.Sort.Plain
import Derived.Shelf.Slices.CompactI
import Derived.Shelf.Slices.In.SortNone
set_option linter.all false
namespace Go.Am
open Go.RowKit
theorem sorted_len(l:List Int):(l.mergeSort λx y=>decide (x<=y)).length=l.length:=List.length_mergeSort l
theorem sort_calls{P:Program}{ρ:Go.Shelf.Ren}(L:Go.Proofs.Lays.n189 P ρ)(l:List Int)(h0:0<l.length)(h1:l.length<=4194304):
  ACalls P (ρ.f 189) [.ms 0 0 l.length] ⟨[(0,.cells 1 (l.map AV.i))],1⟩ λy t=>y=.tup []/\t=⟨[(0,.cells 1 ((l.mergeSort λx y=>decide (x<=y)).map AV.i))],1⟩:=by
 intro G w vs hs hv
 obtain⟨hsz,hvv⟩:=hv
 rcases vs with⟨_|⟨v,_|⟨_,_⟩⟩⟩<;>simp at hsz
 obtain⟨r,cap,ho,rfl,hle,hcap⟩:=ms_at hs (hvv 0 _ v rfl rfl) h0
 obtain⟨cs,e,a1,a2,a3,a4,a5⟩:=ints_at hs (id:=0) (l:=l) rfl ho
 have hlt:=hs.own_lt (id:=0) rfl ho
 refine(Go.Proofs.Any.slices_Sort_int L r.block r.base cap l w (row_ints a1 a5) hlt (by omega)).mono ?_
 rintro e' w' ⟨rfl,n,os,rfl⟩
 have hrem:=remade_sim hs (id:=0) (b1:=.cells 1 ((l.mergeSort λx y=>decide (x<=y)).map AV.i)) rfl ho (by intro h;cases h) n (Go.Sort.putCells (Value.int .i64) r.base (l.mergeSort λx y=>decide (x<=y)).toArray) os (λo hoo=>by
  rw[a1]at hoo;cases hoo
  refine holds_ints (by simp[Go.Sort.putCells,a2]) a3 (by rw[sorted_len];exact a4) (put_ints (by rw[sorted_len,a2];exact a4)))
 exact⟨.tuple #[],G,.tup [],_,rfl,.tup [] #[] rfl (λi x y hx=>by simp at hx),hrem.1,hrem.2,rfl,rfl⟩
theorem sort_calls0{P:Program}{ρ:Go.Shelf.Ren}(L:Go.Proofs.Lays.n189 P ρ)(l:List Int)(h1:l.length<=4194304):
  ACalls P (ρ.f 189) [.ms 0 0 l.length] ⟨[(0,.cells 1 (l.map AV.i))],1⟩ λy t=>y=.tup []/\t=⟨[(0,.cells 1 ((l.mergeSort λx y=>decide (x<=y)).map AV.i))],1⟩:=by
 by_cases h0:0<l.length
 ·exact sort_calls L l h0 h1
 have hl0:l=[]:=List.length_eq_zero_iff.1 (by omega)
 subst hl0
 intro G w vs hs hv
 obtain⟨hsz,hvv⟩:=hv
 rcases vs with⟨_|⟨v,_|⟨_,_⟩⟩⟩<;>simp at hsz
 obtain⟨p,cap,rfl⟩: ∃p cap,v=.slice p 0 cap:=by
  have:=hvv 0 _ v rfl rfl
  generalize hx:AV.ms 0 0 ([]:List Int).length=x at this
  cases this with
  |ms id' start len cap r addr ho hle hin haddr=>injection hx with e1 e2 e3;subst e3;exact⟨_,_,rfl⟩
  |msnil id' start cap base hc=>exact⟨_,_,rfl⟩
  |_=>cases hx
 refine(Go.Proofs.Any.slices_Sort_int_none L p cap w).mono ?_
 rintro e' w' ⟨rfl,rfl⟩
 refine⟨.tuple #[],G,.tup [],_,rfl,.tup [] #[] rfl (λi x y hx=>by simp at hx),hs,.refl _ _ _,rfl,?_⟩
 simp
theorem compact_calls{P:Program}{ρ:Go.Shelf.Ren}(L:Go.Proofs.Lays2.n20 P ρ)(l:List Int)(h0:0<l.length)(h1:l.length<=4194304)(hc:(Go.Lib.compact l).length<=l.length):
  ACalls P (ρ.f 20) [.ms 0 0 l.length] ⟨[(0,.cells 1 (l.map AV.i))],1⟩ λy t=>y=.ms 0 0 (Go.Lib.compact l).length/\t=⟨[(0,.cells 1 ((Go.Lib.compact l).map AV.i))],1⟩:=by
 intro G w vs hs hv
 obtain⟨hsz,hvv⟩:=hv
 rcases vs with⟨_|⟨v,_|⟨_,_⟩⟩⟩<;>simp at hsz
 obtain⟨r,cap,ho,rfl,hle,hcap⟩:=ms_at hs (hvv 0 _ v rfl rfl) h0
 obtain⟨cs,e,a1,a2,a3,a4,a5⟩:=ints_at hs (id:=0) (l:=l) rfl ho
 refine(Go.Proofs.Any.slices_Compact_int L r.block r.base cap l w (row_ints a1 a5) (by omega) hle).mono ?_
 rintro e' w' ⟨rfl,n,rfl⟩
 have hrem:=remade_sim hs (id:=0) (b1:=.cells 1 ((Go.Lib.compact l).map AV.i)) rfl ho (by intro h;cases h) n (Go.Sort.putCells (Value.int .i64) r.base (Go.Lib.compact l++List.replicate (l.length-(Go.Lib.compact l).length) 0).toArray) #[] (λo hoo=>by
  rw[a1]at hoo;cases hoo
  refine holds_ints (by simp[Go.Sort.putCells,a2]) a3 (by omega) (λk x hk=>put_ints (by simp;omega) k x (by rw[List.getElem?_append_left (List.getElem?_eq_some_iff.1 hk).1];exact hk)))
 have hw:remade w n r.block (Go.Sort.putCells (Value.int .i64) r.base (Go.Lib.compact l++List.replicate (l.length-(Go.Lib.compact l).length) 0).toArray) #[]=Go.Sort.putRow (Value.int .i64) (Go.Sort.ahead w n) r.block r.base (Go.Lib.compact l++List.replicate (l.length-(Go.Lib.compact l).length) 0).toArray:=by
  unfold remade Go.Sort.putRow Go.Sort.mapBlock Go.Sort.ahead
  simp
 rw[<-hw]
 refine⟨_,G,.ms 0 0 (Go.Lib.compact l).length,_,rfl,?_,hrem.1,hrem.2,rfl,rfl⟩
 have:=V.ms (G:=G) 0 0 (Go.Lib.compact l).length cap r r.base ho (by omega) (by simpa using hcap) (λ_=>by simp)
 exact this
end Go.Am
