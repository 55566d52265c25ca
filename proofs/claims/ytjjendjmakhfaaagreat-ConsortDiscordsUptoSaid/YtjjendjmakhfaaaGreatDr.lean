/-
  What an operation draws from the tape: never less than nothing.
  Own work. No Go text.
-/
import Derived.Test.YtjjendjmakhfaaaGreatAm31
set_option linter.all false
namespace Go.Am
theorem ask_drawn {α : Type} : ∀ (x : Ask α) (w : World), w.drawn ≤ (w.ask x).2.drawn
  | .done a, w => Nat.le_refl _
  | .ask what range k, w => by
    simp only [World.ask]
    split
    · exact ask_drawn (k 0) w
    · exact Nat.le_trans (Nat.le_succ _) (ask_drawn (k _) { w with drawn := w.drawn + 1 })
theorem sys_drawn (w : World) (c : Sys) : w.drawn ≤ (w.sys c).2.drawn := by
  have h := ask_drawn (Kernel.perform c w.os) w
  unfold World.sys
  split
  · exact Nat.le_refl _
  · rename_i h1
    rw [h1] at h
    exact h
theorem view_drawn {P : Program} {w w' : World} {at_ : Addr} {u : TypeId} {k : Addr} {v : Value} {atomic : Bool} {l : List Addr} (h : w.viewStore P at_ u k v atomic = .ok (w', l)) : w'.drawn = w.drawn := by
  simp only [World.viewStore, bind, Except.bind, pure, Except.pure] at h
  repeat' (split at h)
  all_goals first | cases h | skip
  all_goals rfl
theorem far_drawn {P : Program} {w w' : World} {a : Addr} {v : Value} {atomic : Bool} {l : List Addr} (h : w.farStore P a v atomic = .ok (w', l)) : w'.drawn = w.drawn := by
  unfold World.farStore at h
  split at h
  · split at h
    · rename_i r h1
      cases h
      exact view_drawn h1
    · cases h
  · cases h
theorem run_drawn {α : Type} {P : Program} : ∀ (m : Sem α) (w w' : World) (v : α), m.run P w = .ok v w' → w.drawn ≤ w'.drawn
  | .pure a, w, w', v, h => by cases h; exact Nat.le_refl _
  | .load m a k, w, w', v, h => by
    simp only [Sem.run] at h
    split at h
    · exact run_drawn (k _) w w' v h
    · split at h
      · exact run_drawn (k _) w w' v h
      · cases h
  | .store m a x k, w, w', v, h => by
    have key : ∀ h : (match w.cell? a with
        | some _ => if w.frozen? a then Result.halt (.unsupported (.unsafePointer "a write to bytes that a string shares")) w else k.run P (w.setCell a x)
        | none => match w.farStore P a x (m == .atomic) with
          | .ok (w, _) => k.run P w
          | .error h => .halt h w) = Result.ok v w', w.drawn ≤ w'.drawn := by
      intro h
      split at h
      · split at h
        · cases h
        · have := run_drawn k _ w' v h
          exact this
      · split at h
        · rename_i h1
          have := run_drawn k _ w' v h
          rw [far_drawn h1] at this
          exact this
        · cases h
    cases x
    case agg => simp only [Sem.run] at h; cases h
    case tuple => simp only [Sem.run] at h; cases h
    all_goals
      simp only [Sem.run] at h
      exact key h
  | .new o k, w, w', v, h => by
    simp only [Sem.run] at h
    have := run_drawn (k _) _ w' v h
    exact this
  | .shape r k, w, w', v, h => by
    simp only [Sem.run] at h
    exact run_drawn (k _) w w' v h
  | .freeze a n k, w, w', v, h => by
    simp only [Sem.run] at h
    have := run_drawn k _ w' v h
    unfold World.freeze at this
    split at this <;> exact this
  | .frozen a k, w, w', v, h => by
    simp only [Sem.run] at h
    exact run_drawn (k _) w w' v h
  | .getObj r k, w, w', v, h => by
    simp only [Sem.run] at h
    split at h
    · cases h
    · exact run_drawn (k _) w w' v h
    · cases h
  | .setObj r o k, w, w', v, h => by
    simp only [Sem.run] at h
    split at h
    · cases h
    · have := run_drawn k _ w' v h
      exact this
    · cases h
  | .choose q k, w, w', v, h => by
    simp only [Sem.run] at h
    split at h
    · exact run_drawn (k 0) w w' v h
    · exact Nat.le_trans (Nat.le_succ _) (run_drawn (k _) _ w' v h)
  | .sys c k, w, w', v, h => by
    simp only [Sem.run] at h
    exact Nat.le_trans (sys_drawn w c) (run_drawn (k _) _ w' v h)
  | .program k, w, w', v, h => by
    simp only [Sem.run] at h
    exact run_drawn (k P) w w' v h
  | .mark m k, w, w', v, h => by
    simp only [Sem.run] at h
    exact run_drawn k w w' v h
  | .halt h0, w, w', v, h => by cases h
end Go.Am
