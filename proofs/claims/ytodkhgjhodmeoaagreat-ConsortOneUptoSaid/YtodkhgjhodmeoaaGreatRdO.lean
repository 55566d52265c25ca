/-
 ConsortOne: the size of a piece. Own work. No Go text.
-/
import Derived.Test.YtodkhgjhodmeoaaGreatRdK
import Derived.Test.YtodkhgjhodmeoaaGreatOb
set_option linter.all false
namespace Go.Proofs.YtodkhgjhodmeoaaGreat
open Go Go.Am
theorem size_ofP {p : GPiece} (h : mPiece p ≤ 1048576) : SmallP p := by
 unfold mPiece at h
 have h3 := lm_len rd_event.mpos p.events
 have h2' : mInst p.instrument + (lm mEvent p.events + 0) + 1 ≤ 1048576 := h
 refine ⟨by simp only [Small]; omega,fun e he => ?_⟩
 have h4 := lm_mem (m := mEvent) he
 have h4' : 1 + (4 + (1 + (lm (fun _ => 6) e.stops + 0))) + 1 ≤ lm mEvent p.events := h4
 have h5 := lm_len rd_stop.mpos e.stops
 simp only [Small]; omega
end Go.Proofs.YtodkhgjhodmeoaaGreat
