/-
  Functions of strings, by the shelf's contracts, in the logic.
  Own work (the laying is printed by wip/gen/laytxt.py). No Go text.
-/
import Derived.Test.YtfdnjgoegamonaaGreatDoorChecked
import Derived.Test.YtfdnjgoegamonaaGreatDoorAmI
import Derived.Shelf.Lays
import Derived.Shelf.Strings.SplitCore
import Derived.Shelf.Strings.Search3
import Derived.Shelf.Strings.Count
import Derived.Lib.SplitLaws
set_option linter.all false
namespace Go.Proofs.YtfdnjgoegamonaaGreatDoor
open Go Go.Am Go.RowKit
set_option maxRecDepth 100000
def zT:Go.Shelf.Ren:=⟨λ|221=>59|268=>91|138=>92|143=>93|195=>135|197=>136|218=>137|219=>138|260=>177|217=>139|225=>178|224=>179|267=>180|266=>181|314=>224|n=>n,λ|9=>9|3=>3|31=>101|4=>4|0=>0|105=>243|21=>21|5=>5|46=>191|119=>318|139=>321|138=>320|146=>322|51=>232|n=>n,λ|1=>1|3=>2|4=>3|n=>n⟩
theorem nv:Go.Proofs.Lays.n221 Tryz.prog zT where
 mixed:=by kernel_rfl
 f138:=Tryz.func92.trans (fC some (by kernel_rfl))
 f143:=Tryz.func93.trans (fC some (by kernel_rfl))
 f195:=Tryz.func135.trans (fC some (by kernel_rfl))
 f197:=Tryz.func136.trans (fC some (by kernel_rfl))
 f217:=Tryz.func139.trans (fC some (by kernel_rfl))
 f218:=Tryz.func137.trans (fC some (by kernel_rfl))
 f219:=Tryz.func138.trans (fC some (by kernel_rfl))
 f221:=Tryz.func59.trans (fC some (by kernel_rfl))
 f224:=Tryz.func179.trans (fC some (by kernel_rfl))
 f225:=Tryz.func178.trans (fC some (by kernel_rfl))
 f260:=Tryz.func177.trans (fC some (by kernel_rfl))
 f266:=Tryz.func181.trans (fC some (by kernel_rfl))
 f267:=Tryz.func180.trans (fC some (by kernel_rfl))
 f268:=Tryz.func91.trans (fC some (by kernel_rfl))
 f314:=Tryz.func224.trans (fC some (by kernel_rfl))
 t0:=Tryz.underlying0
 a0:=Tryz.isAgg0
 z0:=Tryz.sizeOf0
 v0:=Tryz.zeroValue0
 t3:=Tryz.underlying3
 a3:=Tryz.isAgg3
 z3:=Tryz.sizeOf3
 v3:=Tryz.zeroValue3
 t4:=Tryz.underlying4
 a4:=Tryz.isAgg4
 z4:=Tryz.sizeOf4
 v4:=Tryz.zeroValue4
 t5:=Tryz.underlying5
 a5:=Tryz.isAgg5
 z5:=Tryz.sizeOf5
 v5:=Tryz.zeroValue5
 t9:=Tryz.underlying9
 a9:=Tryz.isAgg9
 z9:=Tryz.sizeOf9
 v9:=Tryz.zeroValue9
 t21:=Tryz.underlying21
 a21:=Tryz.isAgg21
 z21:=Tryz.sizeOf21
 v21:=Tryz.zeroValue21
 t31:=Tryz.underlying101
 a31:=Tryz.isAgg101
 z31:=Tryz.sizeOf101
 v31:=Tryz.zeroValue101
 t46:=Tryz.underlying191
 a46:=Tryz.isAgg191
 z46:=Tryz.sizeOf191
 v46:=Tryz.zeroValue191
 t51:=Tryz.underlying232
 a51:=Tryz.isAgg232
 z51:=Tryz.sizeOf232
 v51:=Tryz.zeroValue232
 t105:=Tryz.underlying243
 a105:=Tryz.isAgg243
 z105:=Tryz.sizeOf243
 v105:=Tryz.zeroValue243
 t119:=Tryz.underlying318
 a119:=Tryz.isAgg318
 z119:=Tryz.sizeOf318
 t138:=Tryz.underlying320
 a138:=Tryz.isAgg320
 z138:=Tryz.sizeOf320
 v138:=Tryz.zeroValue320
 t139:=Tryz.underlying321
 a139:=Tryz.isAgg321
 z139:=Tryz.sizeOf321
 v139:=Tryz.zeroValue321
 t146:=Tryz.underlying322
 a146:=Tryz.isAgg322
 z146:=Tryz.sizeOf322
 v146:=Tryz.zeroValue322
 g1:=by kernel_rfl
 g3:=by kernel_rfl
 g4:=by kernel_rfl
theorem wT{P:Program}{f:FuncId}{args:List AV}{x:AV}{vs:Array Value}{v:Value}(hv: ∀G us,VL G args us->us=vs)(hx: ∀G,V G x v)
  (h: ∀G s w,eQ G s w->Calls P f vs w λe w'=>e=.returned v/\ ∃n,w'=w.drewN n):kU P f args x:=λs G w us hs hu=>by
 rw[hv G us hu];refine(h G s w hs).mono ?_;rintro e w' ⟨rfl,n,rfl⟩;exact⟨v,G,x,s,rfl,hx G,⟨hs.kS,hs.heap,hs.apart,hs.clear,hs.cE,hs.lt⟩,{Ext.refl G s w with keep:=λ_ _ _=>rfl,size:=eD _,drawn:=Nat.le_add_right _ _},rfl,rfl⟩
theorem QP{G:cx}{a b:ByteArray}{us:Array Value}(h:VL G [.str a,.str b] us):us= #[.string a,.string b]:=by
 obtain⟨eG,vP⟩:=h;rcases us with⟨_|⟨v,_|⟨v2,_|⟨_,_⟩⟩⟩⟩<;>simp at eG
 cases vP 0 _ v rfl rfl;cases vP 1 _ v2 rfl rfl;rfl
theorem Jk{a:ByteArray}(h:a.data.toList.length=1): ∃c,a=⟨#[c]⟩:=by
 obtain⟨⟨l⟩⟩:=a;rcases l with _|⟨c,_|⟨_,_⟩⟩<;>simp at h
 exact⟨c,rfl⟩
theorem QQ(s:ByteArray)(c:Int):kU Tryz.prog 139 [.str s,.int .u8 c] (.i (Lib.indexByte s.data.toList c.toNat.toUInt8)):=
 wT (vs:= #[.string s,.int .u8 c]) (λG us h=>by
  obtain⟨eG,vP⟩:=h;rcases us with⟨_|⟨v,_|⟨v2,_|⟨_,_⟩⟩⟩⟩<;>simp at eG
  cases vP 0 _ v rfl rfl;cases vP 1 _ v2 rfl rfl;rfl) (λG=>.int _ _) λG t w _=>(Go.Proofs.Any.stringslite_IndexByte {nv with} s c w).mono λe w' ⟨h1,h2⟩=>⟨h1,0,h2⟩
theorem NV(s:ByteArray)(c:UInt8):kU Tryz.prog 138 [.str s,.str ⟨#[c]⟩] (.i (Lib.indexByte s.data.toList c)):=
 wT (λG us h=>QP h) (λG=>.int _ _) λG t w _=>(Go.Proofs.Any.stringslite_Index_one {nv with} s c w).mono λe w' ⟨h1,h2⟩=>⟨h1,0,h2⟩
def jP(s:ByteArray)(c:UInt8):List ByteArray:=Lib.splitB ⟨#[c]⟩ 0 (min (Lib.countB s ⟨#[c]⟩+1) (s.size+1)-1) s
theorem Dm(s:ByteArray)(c:UInt8)(hs:s.size<4294967281)(w:World):Calls Tryz.prog 59 #[.string s,.string ⟨#[c]⟩,.int .i64 0,.int .i64 (-1)] w λe w'=>
  e=.returned (.slice (some ⟨w.heap.size,0,none⟩) (jP s c).length (min (Lib.countB s ⟨#[c]⟩+1) (s.size+1)))/\w'=w.alloc (.cells (Lib.cellsOf (jP s c) (min (Lib.countB s ⟨#[c]⟩+1) (s.size+1))) 9):=
 Go.Proofs.Any.strings_genSplit_core nv (by kernel_rfl) s ⟨#[c]⟩ 0 (-1) (min (Lib.countB s ⟨#[c]⟩+1) (s.size+1)) w hs (eD 1) (xC _)
  (λx d hx=>(Go.Proofs.Any.strings_Index_one {nv with} x c _).mono λe w' ⟨h1,h2⟩=>⟨by rw[h1,show Lib.indexB x ⟨#[c]⟩=Lib.indexByte x.data.toList c from Lib.index_one _ _],h2⟩)
  ((Go.Proofs.Any.strings_Count_one {nv with} s c w).mono λe w' ⟨h1,h2⟩=>⟨by
   rw[h1];show _=Ending.returned (Value.int .i64 ((Lib.count s.data.toList [c]:Nat):Int));rw[Lib.count_one];rfl,h2⟩)
  (by decide) (by decide) (by rw[dP (by decide)];omega)
theorem KQ(s:ByteArray)(c:UInt8)(hs:s.size<4294967281):kU Tryz.prog 59 [.str s,.str ⟨#[c]⟩,.i 0,.i (-1)] (.sl false ((jP s c).map .str)):=λt G w us ht hu=>by
 have e:us= #[.string s,.string ⟨#[c]⟩,.int .i64 0,.int .i64 (-1)]:=by
  obtain⟨eG,vP⟩:=hu;rcases us with⟨_|⟨v,_|⟨v2,_|⟨v3,_|⟨v4,_|⟨_,_⟩⟩⟩⟩⟩⟩<;>simp at eG
  cases vP 0 _ v rfl rfl;cases vP 1 _ v2 rfl rfl;cases vP 2 _ v3 rfl rfl;cases vP 3 _ v4 rfl rfl;rfl
 subst e;refine(Dm s c hs w).mono ?_;rintro e w' ⟨rfl,rfl⟩;generalize hN:min (Lib.countB s ⟨#[c]⟩+1) (s.size+1)=N;generalize s8:Lib.cellsOf (jP s c) N=cs;obtain⟨h1,h2⟩:=ht.LC cs 9;refine⟨_,G.gM w.heap.size cs,.sl false ((jP s c).map .str),t,rfl,?_,h1,h2,rfl,rfl⟩;have eP:(jP s c).length<=N:=by
  subst hN;have: ∀(k:Nat)(x:ByteArray),(Lib.splitB ⟨#[c]⟩ 0 k x).length<=k+1:=λk=>by
   induction k with
   |zero=>intro x;simp[Lib.splitB]
   |succ k ih=>
    intro x;unfold Lib.splitB;split
    ·simp
    ·have:=ih (x.extract ((Lib.indexB x ⟨#[c]⟩).toNat+(⟨#[c]⟩:ByteArray).size) x.size);simp only[oC];omega
  have h3:=this (min (Lib.countB s ⟨#[c]⟩+1) (s.size+1)-1) s;unfold jP;omega
 have pI:dB ((jP s c).map AV.str)=(jP s c).map AV.str:=Ec (pA.2 λx hx=>by
  obtain⟨y,_,rfl⟩:=kl.1 hx;rfl)
 have Xv: ∀(k:Nat)y,(jP s c)[k]? =some y->cs[k]? =some (.string y):=λk y hk=>by
  subst s8;simp only[Lib.cellsOf,ZF];rw[nD (by have:=(fT.1 hk).1;simpa using this),sW,hk];rfl
 have:=V.sl (G:=G.gM w.heap.size cs) false ((jP s c).map .str) w.heap.size 0 1 N (λk=>cs.getD k undef) (by simpa using eP) (λh=>by cases h)
  (λe he=>by obtain⟨y,_,rfl⟩:=kl.1 he;rfl) (λx hx=>by rw[pI]at hx;obtain⟨y,_,rfl⟩:=kl.1 hx;rfl)
  (λk hk=>by
   have ky:k<(jP s c).length:=by simpa using hk
   have:=Xv k _ (dR ky);simp[cx.gM,this,wx])
  (λk x hx=>by
   rw[pI,sW]at hx;obtain⟨y,h3,rfl⟩:=D5.1 hx;have:=Xv k y h3;rw[wx,this];exact .str _)
 simpa using this
end Go.Proofs.YtfdnjgoegamonaaGreatDoor
