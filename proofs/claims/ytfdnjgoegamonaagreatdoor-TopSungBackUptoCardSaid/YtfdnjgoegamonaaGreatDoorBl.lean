/-
  What the row's list gives: the semitones of the letters.
  Own work. No Go text.
-/
import Derived.Test.YtfdnjgoegamonaaGreatDoorRows
import Derived.Test.YtfdnjgoegamonaaGreatDoorAm31
import Derived.Lib.LaidTab
import Derived.MakeChecks
set_option linter.all false
namespace Go.Proofs.YtfdnjgoegamonaaGreatDoor
open Go Go.Am
set_option maxRecDepth 100000
def aa5:List Int:=[128,191,160,191,128,159,144,191,128,143,0,0,0,0,0,0,0,0,0,0,0,0,0,0,0,0,0,0,0,0,0,0]
noncomputable def bN0:String:=(Rows.topSungBackUptoRow.laid.getD 1 ("",.nil)).1
theorem Li{W:World}(h:laidMetH Tryz.prog Rows.topSungBackUptoRow.laid W):Gv (cx.all W).ir:=by
 rw[MakeChecks.laidMetH_plain _ _ _ (by kernel_rfl)]at h;obtain⟨ps,⟨g0,t0,cs0,f0,p0,q0,hg0,Yz,hv0,hd0,⟨g1,t1,cs1,f1,p1,q1,hg1,XJ,Lm,hd1,_,_⟩,_⟩,_,_⟩:=h;have gB : Tryz.prog.globalNamed bN0 = some 0 := by kernel_rfl
 have tB:(Tryz.prog.globals[0]?).map (·.type)=some 201:=by kernel_rfl
 obtain rfl:=Option.some.inj (gB.symm.trans hg1);obtain rfl:=Option.some.inj (tB.symm.trans XJ);have hd1:DataW.trod _ Tryz.prog W 0 _ _ f1 201 cs1.toList=some (Lib.tabData .i64 na,p1):=hd1;have hc:=Lib.cells_of_tab (by kernel_rfl:Tryz.prog.underlying 201=some (.array 7 3)) (by kernel_rfl:Tryz.prog.underlying 3=some (.int .i64)) (by kernel_rfl) (by kernel_rfl) hd1;have T : Lib.TabIs Tryz.prog W bN0 .i64 na := by
  unfold Lib.TabIs;exact (show World.var? Tryz.prog W bN0=some cs1 from Lm).trans (by rw[<-hc])
 intro i x hx;have hi:=(fT.1 hx).1;have:=T.cell gB i hi;rw[List.getD_eq_getElem?_getD,hx]at this;exact this
end Go.Proofs.YtfdnjgoegamonaaGreatDoor
