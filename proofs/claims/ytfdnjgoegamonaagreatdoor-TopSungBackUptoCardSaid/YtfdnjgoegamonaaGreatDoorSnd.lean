/-
  instrument.Sounding: it reads a package variable. It is walked in the kit's own way.
  Own work. No Go text.
-/
import Derived.Test.YtfdnjgoegamonaaGreatDoorChecked
import Derived.Test.YtfdnjgoegamonaaGreatDoorAmI
import Derived.WalkKit
import Derived.Shelf.RegionOpenPlain
set_option linter.all false
namespace Go.Proofs.YtfdnjgoegamonaaGreatDoor
open Go Go.RowKit Go.Am
set_option maxHeartbeats 1600000
set_option maxRecDepth 100000
theorem QR:Tryz.f63.ntmps=52:=by kernel_rfl
def KR(l a o:Int):Int×Int:=
 if l<0\/7<=l\/a< -1\/1<a\/o< -1\/9<o then(0,10)else
  if 12*(o+1)+(na[l.toNat]?).getD 0+a<0\/127<12*(o+1)+(na[l.toNat]?).getD 0+a then(0,10)else(12*(o+1)+(na[l.toNat]?).getD 0+a,0)
theorem QS(l a o:Int)(w:World)(h:l<0\/7<=l\/a< -1\/1<a\/o< -1\/9<o):
  Calls Tryz.prog 63 #[.agg #[.int .i64 l,.int .i64 a,.int .i64 o]] w λe w'=>e=.returned (.tuple #[.int .i64 0,.int .i64 10])/\Below w.heap.size w w'/\w.drawn<=w'.drawn:=by
 have fin:Below w.heap.size w (w.alloc (.cells #[.int .i64 l,.int .i64 a,.int .i64 o] 159)):=(Below.refl w.heap.size w).alloc (eD _) _;by_cases h1:l<0
 ·go_enter Tryz.func63,QR
  go_wp2
  go_ret2
  exact⟨rfl,fin,eD _⟩
 by_cases h2:7<=l
 ·go_enter Tryz.func63,QR
  go_wp2
  go_ret2
  exact⟨rfl,fin,eD _⟩
 by_cases h3:a< -1
 ·go_enter Tryz.func63,QR
  go_wp2
  go_ret2
  exact⟨rfl,fin,eD _⟩
 by_cases h4:1<a
 ·go_enter Tryz.func63,QR
  go_wp2
  go_ret2
  exact⟨rfl,fin,eD _⟩
 by_cases h5:o< -1
 ·go_enter Tryz.func63,QR
  go_wp2
  go_ret2
  exact⟨rfl,fin,eD _⟩
 by_cases h6:9<o
 ·go_enter Tryz.func63,QR
  go_wp2
  go_ret2
  exact⟨rfl,fin,eD _⟩
 omega
theorem NW(n:Nat)(x a o:Int)(w:World)(hn:n<7)(hc:w.cell? ⟨0,n,none⟩=some (.int .i64 x))(hx:0<=x/\x<=11)(h3: ¬a< -1)(h4: ¬1<a)(h5: ¬o< -1)(h6: ¬9<o):
  Calls Tryz.prog 63 #[.agg #[.int .i64 (n:Int),.int .i64 a,.int .i64 o]] w λe w'=>
   e=.returned (.tuple (if 12*(o+1)+x+a<0\/127<12*(o+1)+x+a then #[.int .i64 0,.int .i64 10]else #[.int .i64 (12*(o+1)+x+a),.int .i64 0]))/\Below w.heap.size w w'/\w.drawn<=w'.drawn:=by
 have h1: ¬(n:Int)<0:=by omega
 have h2: ¬(7:Int)<=(n:Int):=by omega
 have fin:Below w.heap.size w (w.alloc (.cells #[.int .i64 (n:Int),.int .i64 a,.int .i64 o] 159)):=(Below.refl w.heap.size w).alloc (eD _) _;have gl:0<w.heap.size:=Ci hc;have hc2:(w.alloc (.cells #[.int .i64 (n:Int),.int .i64 a,.int .i64 o] 159)).cell? ⟨0,n,none⟩=some (.int .i64 x):=by rw[rA gl];exact hc
 have mixed:Tryz.prog.follows Departure.mixedOrders=true:=by kernel_rfl
 have Uk:Below w.heap.size w (w.alloc (.cells #[.int .i64 (n:Int),.int .i64 a,.int .i64 o] 159)).drew:=⟨fin.os,fin.tape,fin.output,fin.size,fin.block⟩;have Ul:w.drawn<=(w.alloc (.cells #[.int .i64 (n:Int),.int .i64 a,.int .i64 o] 159)).drew.drawn:=Nat.le_succ _;by_cases p1:12*(o+1)+x+a<0
 ·rw[dP (.inl p1)]
  go_enter Tryz.func63,QR
  go_wp2
  go_region_o
  go_wp2
  go_ret2
  exact⟨rfl,Uk,Ul⟩
 by_cases p2:127<12*(o+1)+x+a
 ·rw[dP (.inr p2)]
  go_enter Tryz.func63,QR
  go_wp2
  go_region_o
  go_wp2
  go_ret2
  exact⟨rfl,Uk,Ul⟩
 ·rw[dY (by omega)]
  go_enter Tryz.func63,QR
  go_wp2
  go_region_o
  go_wp2
  go_ret2
  exact⟨rfl,Uk,Ul⟩
theorem NX(l a o:Int)(w:World)(hb: ∀(i:Nat)x,na[i]? =some x->w.cell? ⟨0,i,none⟩=some (.int .i64 x)):
  Calls Tryz.prog 63 #[.agg #[.int .i64 l,.int .i64 a,.int .i64 o]] w λe w'=>e=.returned (.tuple #[.int .i64 (KR l a o).1,.int .i64 (KR l a o).2])/\Below w.heap.size w w'/\w.drawn<=w'.drawn:=by
 unfold KR;by_cases h:l<0\/7<=l\/a< -1\/1<a\/o< -1\/9<o
 ·rw[dP h];exact QS l a o w h
 ·rw[dY h];have hl:0<=l/\l<7:=by omega
  obtain⟨n,rfl⟩: ∃n:Nat,l=(n:Int):=⟨l.toNat,by omega⟩;have hn:n<7:=by omega
  have hg:na[n]? =some (na[n]'hn):=dR hn;have hx: ∀y∈na,0<=y/\y<=11:=by decide
  have hr:(n:Int).toNat=n:=rfl;rw[hr,hg,Ce];refine(NW n _ a o w hn (hb n _ hg) (hx _ (JN hn)) (by omega) (by omega) (by omega) (by omega)).mono λe w' ⟨h1,h2⟩=>⟨?_,h2⟩;rw[h1];split<;>rfl
theorem HF{G:cx}{w w':World}(hs:eQ G St.nil w)(hb:Below w.heap.size w w')(hd:w.drawn<=w'.drawn):eQ G St.nil w'/\Ext G St.nil w G St.nil w':=by
 refine⟨⟨⟨λb o v hi=>?_,hs.kS.2⟩,λid blk hg=>by simp[St.nil,di]at hg,λid _ b _ _ _ hg=>by simp[St.nil,di]at hg,λid b _ _ hg=>by simp[St.nil,di]at hg,hs.cE,λid b hg=>by simp[St.nil,di]at hg⟩,⟨.refl G,hb.os,hb.tape,hb.output,hb.size,λi hi _=>hb.block i hi,λ_ _ _ h=>.inl h,λ_ _ h=>.inl h,λid b hg=>by simp[St.nil,di]at hg,eD _,λid hg=>by simp[St.nil,di]at hg,λ_ _ h=>h,hd⟩⟩;have gl:=hs.pB hi;rw[World.cell?_of_block (a:=⟨b,o,none⟩) (hb.block b gl)];exact hs.ir b o v hi
theorem Um(l a o:Int):kU Tryz.prog 63 [.agg [.i l,.i a,.i o]] (.eC [.i (KR l a o).1,.i (KR l a o).2]):=by
 refine Rl rfl rfl ?_;intro G w vs hs hv;obtain⟨eG,vP⟩:=hv;rcases vs with⟨_|⟨v,_|⟨_,_⟩⟩⟩<;>simp at eG
 have e:v=.agg #[.int .i64 l,.int .i64 a,.int .i64 o]:=by
  have h0:=vP 0 _ v rfl rfl;cases h0 with
  |agg _ us dJ h=>
   rcases us with⟨_|⟨u1,_|⟨u2,_|⟨u3,_|⟨_,_⟩⟩⟩⟩⟩<;>simp at dJ
   cases h 0 _ u1 rfl rfl;cases h 1 _ u2 rfl rfl;cases h 2 _ u3 rfl rfl;rfl
 subst e;refine(NX l a o w λi x hx=>hs.ir _ _ _ (hs.kS.2 i x hx)).mono ?_;rintro e' w' ⟨rfl,hb,hd⟩;obtain⟨q1,q2⟩:=HF hs hb hd;refine⟨_,G,_,St.nil,rfl,.eC _ _ rfl λi x y hx hy=>?_,q1,q2,rfl⟩;rcases i with _|_|i
 ·simp at hx hy;subst hx;subst hy;exact .int _ _
 ·simp at hx hy;subst hx;subst hy;exact .int _ _
 ·simp at hx
end Go.Proofs.YtfdnjgoegamonaaGreatDoor
