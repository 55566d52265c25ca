/-
 How the calls of a player are read.
 Own work. No Go text.
-/
import Derived.Test.YtjjendjmakhfaaaGreatRdK
set_option linter.all false
namespace Go.Proofs.YtjjendjmakhfaaaGreat
open Go Go.Am Go.ChangeShapes Go.WideShapes Go.ChangeAt Go.RowKit Go.Deep
set_option maxRecDepth 100000
theorem rd_call : Rdg Bk Tryz.prog 43 E_GLaw09Call 4 (fun _ => True) (fun _ => 5) :=
 Rdg.struct (fs := #[fld 43 0,fld 43 1,fld 43 2,fld 43 3]) [fld 43 0,fld 43 1,fld 43 2,fld 43 3] (RdgF.cons (rd_field rd_int (by kernel_rfl)) (by kernel_rfl) (RdgF.cons (rd_field rd_int (by kernel_rfl)) (by kernel_rfl) (RdgF.cons (rd_field rd_int (by kernel_rfl)) (by kernel_rfl) (RdgF.cons (rd_field rd_int (by kernel_rfl)) (by kernel_rfl) RdgF.nil))))
  (by kernel_rfl) rfl (by kernel_rfl) (by decide)
  (fun b => ⟨b.1,b.2.1,b.2.2.1,b.2.2.2.1⟩) (fun a => (a.what,a.a,a.b,a.c,())) (fun b => rfl) (fun a => rfl) (fun b h => trivial) (fun b => rfl)
theorem rd_calls : Rdg Bk Tryz.prog 25 (SL E_GLaw09Call) 1 (okL fun _ => True) (lm (fun _ => 5)) := rd_call.slice (by kernel_rfl) (by kernel_rfl)
end Go.Proofs.YtjjendjmakhfaaaGreat
