/-
  Known calls, more: joining memos, a call's body in pieces.
  Own work. No Go text.
-/
import Derived.Test.YthjapedbgmjhmaaGreatMm
set_option linter.all false
namespace Go.Am
open Go.RowKit
theorem MemOk.app {P : Program} : ∀ {m n : Memo}, MemOk P m → MemOk P n → MemOk P (m ++ n)
  | [], _, _, h => h
  | _ :: _, _, ⟨a, b⟩, h => ⟨a, MemOk.app b h⟩
theorem ifunc_at {P : Program} {call : Inv} {fuel : Nat} {g : FuncId} {args : List AV} {s s' : St} {fn : Func} {c : Code} {env : Env} (hf : P.funcs[g]? = some fn) (hb : fn.body = some c)
    (hg : ((fn.name != "runtime.NumGoroutine") && Nat.ble args.length fn.ntmps && noDfr s.heap) = true)
    (hr : irun P fn.ntmps s.cnt none call fuel c (maskL (fn.results.toList.map resSlot)) (argEnv args 0) s = some (.ret, env, s')) : ifunc P call fuel g args s = endOf P fn.results env s' := by
  unfold ifunc
  simp only [hf, hb, hg, hr, cond_true]
def okEndB (v : AV) : Option (AV × St) → Bool
  | some (x, t) => AV.beq (fzRun 400 x t.heap) v
  | none => false
theorem okEnd {o : Option (AV × St)} {v : AV} (h : okEndB v o = true) : ∃ x t, o = some (x, t) ∧ fzRun 400 x t.heap = v := by
  cases o with
  | none => cases h
  | some p => obtain ⟨x, t⟩ := p; exact ⟨x, t, rfl, AV.beq_eq h⟩
end Go.Am
